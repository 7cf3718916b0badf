/- A part of the proof: an abstract machine over data, and lemmas; nothing of the statement. No condition beyond those stated. -/
import Derived.Test.YtljpopkonkanlaaGreatDoorG1
import Derived.MapKept
import Derived.Scope
set_option linter.unusedVariables false
set_option linter.unusedSimpArgs false
set_option linter.unusedSectionVars false
set_option linter.unnecessarySimpa false

namespace Go.AM
open Go.MapKept (IsKey run_findKey run_checkKey sameNow_of_keys)
variable {P:Program} {w:World} {I:Im} {μ:Pos} {σ:Sto}
def Qd1:Option IntKind→TypeDesc→Prop
 | some ik,d=>d=.int ik
 | none,d=>d=.string
theorem ql1 {t:TypeId} {ik:Option IntKind} {e:TypeId} (h:qiu P t=some (ik,e)):∃k d,P.underlying t=some (.map k e)∧P.underlying k=some d∧Qd1 ik d:=by
 unfold qiu at h
 split at h
 ·rename_i k e' hu
  split at h
  ·rename_i q hk
   simp only[Option.some.injEq,Prod.mk.injEq] at h
   obtain⟨rfl,rfl⟩:=h
   exact⟨k,_,hu,hk,rfl⟩
  ·rename_i hk
   simp only[Option.some.injEq,Prod.mk.injEq] at h
   obtain⟨rfl,rfl⟩:=h
   exact⟨k,_,hu,hk,rfl⟩
  ·cases h
 ·cases h
theorem q7p {ik:Option IntKind} {v:Value} {u:AV} (hv:qbg w I μ σ v u) (hk:qki ik u):qe6 ik (qct u)∧v=qcs ik (qct u):=by
 cases u with
 | d x=>
  cases x with
  | int k n=>
   simp only[qki] at hk
   subst hk
   cases hv.inv_d
   exact⟨trivial,rfl⟩
  | str l=>
   simp only[qki] at hk
   subst hk
   cases hv.inv_d
   exact⟨trivial,rfl⟩
  | _=>exact hk.elim
 | _=>exact hk.elim
theorem qhi {ik:Option IntKind} {k k':Key} (h:qe6 ik k) (h':qe6 ik k') (e:qcs ik k=qcs ik k'):k=k':=by
 cases ik<;>cases k<;>cases k'<;>simp_all [qe6,qcs]
theorem q1u {ik:Option IntKind} {d:TypeDesc} (hi:Qd1 ik d) {k:Key} (hk:qe6 ik k):IsKey d (qcs ik k):=by
 cases ik<;>cases k<;>simp_all [qe6,qcs,Qd1,IsKey]
theorem qf3 {ik:Option IntKind} {kt:TypeId} {d:TypeDesc} (hd:P.underlying kt=some d) (hi:Qd1 ik d) {k:Key} (hk:qe6 ik k) (em:Bool):(Instr.checkKey em 10000 kt (qcs ik k)).run P w=.ok () w:=
 run_checkKey hd (q1u hi hk) em 9999
theorem q67 {ik:Option IntKind} {d:TypeDesc} (hi:Qd1 ik d) {k k':Key} (hk:qe6 ik k) (hk':qe6 ik k'):Instr.sameNow d (qcs ik k) (qcs ik k')=some (decide (k=k')):=by
 obtain⟨r,h1,h2⟩:=sameNow_of_keys (q1u hi hk) (q1u hi hk')
 rw[h1]
 congr 1
 rw[Bool.eq_iff_iff,h2,decide_eq_true_eq]
 exact⟨qhi hk hk',fun e=>by rw[e]⟩
theorem qgw {ik:Option IntKind} {d:TypeDesc} (hi:Qd1 ik d) {k:Key} (hk:qe6 ik k):∀(es:List MapEntry) (i:Nat),(∀e∈es,∃k',qe6 ik k'∧e.key=qcs ik k') →
  (∃e n,es[n]? = some e∧e.key=qcs ik k∧Instr.findNow d (qcs ik k) es i=some (some (i+n,e.val)))∨((∀e∈es,e.key≠qcs ik k)∧Instr.findNow d (qcs ik k) es i=some none)
 | [],i,_=>.inr ⟨fun e he=>by simp at he,rfl⟩
 | e::es,i,h=>by
  obtain⟨k',h1,h2⟩:=h e List.mem_cons_self
  have hs:=q67 hi hk h1
  rw[←h2] at hs
  by_cases hkk:k=k'
  ·subst hkk
   left
   refine⟨e,0,rfl,h2,?_⟩
   simp[Instr.findNow,hs]
  ·have hs':Instr.sameNow d (qcs ik k) e.key=some false:=by rw[hs];simp[hkk]
   have hf:Instr.findNow d (qcs ik k) (e::es) i=Instr.findNow d (qcs ik k) es (i+1):=by simp[Instr.findNow,hs']
   rw[hf]
   rcases qgw hi hk es (i+1) (fun e' he'=>h e' (List.mem_cons_of_mem _ he')) with⟨e',n,q1,q2,q3⟩|⟨q1,q2⟩
   ·exact .inl ⟨e',n+1,by simpa using q1,q2,by rw[q3];congr 3;omega⟩
   ·refine .inr ⟨fun e' he'=>?_,q2⟩
    rcases List.mem_cons.1 he' with rfl|he'
    ·rw[h2];intro hc;exact hkk (qhi h1 hk hc).symm
    ·exact q1 e' he'
theorem Rel.mapOf (h:Rel w I μ σ) {id:Nat} (hb:(qae σ id).isMap=true):∃b es clock,id<σ.length∧qcb σ id∧(qae σ id).own=true∧μ id=some (b,0)∧¬I.fr b∧(w.heap[b]? = some (.map es clock)∧MapKept.Stamped es clock)∧qwm w I μ σ (qae σ id).mk (qae σ id).mf es.toList:=by
 cases hB:qae σ id with
 | map ik f=>
  have ho:(qae σ id).own=true:=by rw[hB];rfl
  have hid:=qbc ho
  have:=h.blk id hid
  rw[hB] at this
  obtain⟨b,es,clock,h1,h2,h3,h4⟩:=this
  exact⟨b,es,clock,hid,by unfold qcb;rw[hB];rfl,rfl,h1,h2,h3,h4⟩
 | _=>rw[hB] at hb;simp[Blk.isMap] at hb
def lkV (σ:Sto) (z m k:AV) (ok:Bool):AV:=if ok=true then .tup [(lkF σ m (qct k)).getD z,.d (.bool (lkF σ m (qct k)).isSome)] else(lkF σ m (qct k)).getD z
theorem Qe8 {e:TypeId} {z:Value} (hz:qbs P e=some z):qbg w I μ σ z (qce P e):=by
 unfold qce;rw[hz];exact qkd z
theorem Qlx {v1 v2:Value} {u1 u2:AV} (h1:qbg w I μ σ v1 u1) (h2:qbg w I μ σ v2 u2):qbg w I μ σ (.tuple #[v1,v2]) (.tup [u1,u2]):=
 .tup [v1,v2] [u1,u2] rfl fun i v u hv hu=>by
  match i with
  | 0=>simp at hv hu;subst hv;subst hu;exact h1
  | 1=>simp at hv hu;subst hv;subst hu;exact h2
  | i+2=>simp at hv
theorem q7m (h:Rel w I μ σ) {t:TypeId} {ik:Option IntKind} {e:TypeId} (ht:qiu P t=some (ik,e)) {mv kv:Value} {m k:AV} (hm:qbg w I μ σ mv m) (hk:qbg w I μ σ kv k) (hko:qki ik k) (ho:Qp5 σ ik m)
  (hz:(qbs P e).isSome=true) (ok:Bool):∃z,(Instr.lookup t mv kv ok).run P w=.ok z w∧qbg w I μ σ z (lkV σ (qce P e) m k ok):=by
 obtain⟨kt,d,hu,hd,hi⟩:=ql1 ht
 obtain⟨z0,hz⟩:=Option.isSome_iff_exists.1 hz
 obtain⟨hf,rfl⟩:=q7p hk hko
 have hzr:=Qe8 (P:=P) (w:=w) (I:=I) (μ:=μ) (σ:=σ) hz
 have hzrun:=qg1 (P:=P) (w:=w) hz
 have fin:∀(v:Value) (b:Bool) (u:AV),qbg w I μ σ v u→qbg w I μ σ (if ok=true then .tuple #[v,.bool b] else v) (if ok=true then .tup [u,.d (.bool b)] else u):=fun v b u hr=>by
  cases ok with
  | true=>exact Qlx hr (.d _ _ (.bool _))
  | false=>exact hr
 cases m with
 | mapr id=>
  obtain⟨hb,hik⟩:=ho
  obtain⟨b,es,clock,_,hal,_,h1,_,⟨h3,hst⟩,hM⟩:=h.mapOf hb
  cases hm with
  | mapr _ _ _ hh=>
   obtain⟨b',h4,rfl⟩:=hh
   have:=h4 hal
   rw[h1] at this
   simp only[Option.some.injEq,Prod.mk.injEq,and_true] at this
   subst this
   rw[hik] at hM
   have hck:=qf3 (P:=P) (w:=w) hd hi hf es.isEmpty
   rcases qgw hi hf es.toList 0 hM.keys with⟨en,n,q1,q2,q3⟩|⟨q1,q2⟩
   ·have hrun:=run_findKey (P:=P) (w:=w) hd q3
    have hsome:∃u,(qae σ id).mf (qct k)=some u∧qbg w I μ σ en.val u:=by
     cases hfk:(qae σ id).mf (qct k) with
     | none=>exact absurd q2 (hM.miss _ hf hfk en (List.mem_of_getElem? q1))
     | some u=>
      obtain⟨e2,r1,r2,r3⟩:=hM.hit _ u hf hfk
      have:e2=en:=by
       apply Classical.byContradiction
       intro hne
       have hp:=hM.nodup
       rw[List.pairwise_iff_getElem] at hp
       obtain⟨i2,hi2⟩:=List.getElem?_of_mem r1
       have hl2:i2<es.toList.length:=by
        rcases Nat.lt_or_ge i2 es.toList.length with h'|h'
        ·exact h'
        ·rw[List.getElem?_eq_none h'] at hi2;cases hi2
       have hl1:n<es.toList.length:=by
        rcases Nat.lt_or_ge n es.toList.length with h'|h'
        ·exact h'
        ·rw[List.getElem?_eq_none h'] at q1;cases q1
       rw[List.getElem?_eq_getElem hl1] at q1
       rw[List.getElem?_eq_getElem hl2] at hi2
       simp only[Option.some.injEq] at q1 hi2
       rcases Nat.lt_trichotomy n i2 with hlt|heq|hgt
       ·exact hp n i2 hl1 hl2 hlt (by rw[q1,hi2,q2,r2])
       ·subst heq;exact hne (hi2.symm.trans q1)
       ·exact hp i2 n hl2 hl1 hgt (by rw[q1,hi2,q2,r2])
      subst this
      exact⟨u,rfl,r3⟩
    obtain⟨u,hu1,hu2⟩:=hsome
    refine⟨if ok=true then .tuple #[en.val,.bool true] else en.val,?_,?_⟩
    ·simp only[Instr.lookup,Sem.run_bind,run_underlying hu,Result.andThen_ok,MapKept.run_getObj_map h3,hck,hrun,Sem.run_pure]
    ·have e0:lkF σ (.mapr id) (qct k)=some u:=hu1
     unfold lkV
     rw[e0]
     exact fin en.val true u hu2
   ·have hrun:=run_findKey (P:=P) (w:=w) hd q2
    have hnone:(qae σ id).mf (qct k)=none:=by
     cases hfk:(qae σ id).mf (qct k) with
     | none=>rfl
     | some u=>
      obtain⟨e2,r1,r2,r3⟩:=hM.hit _ u hf hfk
      exact absurd r2 (q1 e2 r1)
    refine⟨if ok=true then .tuple #[z0,.bool false] else z0,?_,?_⟩
    ·simp only[Instr.lookup,Sem.run_bind,run_underlying hu,Result.andThen_ok,MapKept.run_getObj_map h3,hck,hrun,hzrun,Sem.run_pure]
    ·have e0:lkF σ (.mapr id) (qct k)=none:=hnone
     unfold lkV
     rw[e0]
     exact fin z0 false _ hzr
 | d x=>
  cases x with
  | raw v=>
   cases v with
   | map p=>
    cases p with
    | none=>
     have hmv:mv=.map none:=by cases hm.inv_d;rfl
     subst hmv
     have hck:=qf3 (P:=P) (w:=w) hd hi hf true
     have hrun:=run_findKey (P:=P) (w:=w) (kt:=kt) (l:=[]) (k:=qcs ik (qct k)) (a:=none) hd rfl
     refine⟨if ok=true then .tuple #[z0,.bool false] else z0,?_,fin z0 false _ hzr⟩
     simp only[Instr.lookup,Sem.run_bind,run_underlying hu,Result.andThen_ok,Sem.run_pure,Array.isEmpty_empty,hck,hrun,hzrun]
    | some b=>exact ho.elim
   | _=>exact ho.elim
  | _=>exact ho.elim
 | _=>exact ho.elim
theorem Qfk {b:Nat} {es:Array MapEntry} {clock:Nat} (hb:w.heap[b]? = some (.map es clock)) (es':Array MapEntry) (clock':Nat):qfk b w {w with heap:=w.heap.setIfInBounds b (.map es' clock')}:=by
 have hlt:b<w.heap.size:=by
  rcases Nat.lt_or_ge b w.heap.size with h'|h'
  ·exact h'
  ·rw[Array.getElem?_eq_none h'] at hb;cases hb
 refine⟨rfl,rfl,rfl,by simp,fun b' hb'=>by simp[Array.getElem?_setIfInBounds_ne (Ne.symm hb')],?_,?_⟩
 ·unfold qcf;simp[hb,Array.getElem?_setIfInBounds_self_of_lt hlt]
 ·rintro⟨c,t,hc⟩;rw[hb] at hc;cases hc
theorem Qm5 {b:Nat} {es:Array MapEntry} {clock:Nat} (hb:w.heap[b]? = some (.map es clock)) (o:Obj):({w with heap:=w.heap.setIfInBounds b o}:World).heap[b]? = some o:=by
 have hlt:b<w.heap.size:=by
  rcases Nat.lt_or_ge b w.heap.size with h'|h'
  ·exact h'
  ·rw[Array.getElem?_eq_none h'] at hb;cases hb
 simp[Array.getElem?_setIfInBounds_self_of_lt hlt]
theorem Rel.setMap (h:Rel w I μ σ) {id b:Nat} {es es':Array MapEntry} {clock clock':Nat} {f':Key→Option AV} (hb:(qae σ id).isMap=true) (hμ:μ id=some (b,0)) (hh:w.heap[b]? = some (.map es clock))
  (hS:MapKept.Stamped es' clock') (hM:qwm w I μ σ (qae σ id).mk f' es'.toList) :
  Rel {w with heap:=w.heap.setIfInBounds b (.map es' clock')} I μ (σ.set id (.map (qae σ id).mk f'))∧qcn σ.length w I μ σ {w with heap:=w.heap.setIfInBounds b (.map es' clock')} I μ (σ.set id (.map (qae σ id).mk f')):=by
 have hown:(qae σ id).own=true:=by cases hB:qae σ id<;>simp_all [Blk.isMap,Blk.own]
 have hid:=qbc hown
 have ww:=Qfk hh es' clock'
 have a1:(Blk.map (qae σ id).mk f').isArr=(qae σ id).isArr:=by cases hB:qae σ id<;>simp_all [Blk.isMap,Blk.isArr]
 have a2:(Blk.map (qae σ id).mk f').es=(qae σ id).es:=by cases hB:qae σ id<;>simp_all [Blk.isMap,Blk.es]
 have a3:(qae σ id).xs.length≤(Blk.map (qae σ id).mk f').xs.length:=by cases hB:qae σ id<;>simp_all [Blk.isMap,Blk.xs]
 have k:=qka h hown hμ ww (.map (qae σ id).mk f') a1 a2 a3
 refine⟨h.upd hown hμ ww _ a1 a2 a3 ⟨b,es',clock',hμ,(qjk h hid hown hμ).2,⟨Qm5 hh _,hS⟩,hM.imp' fun v u hv=>hv.keep k⟩,k⟩
theorem qk6 (h:Rel w I μ σ) {t:TypeId} {ik:Option IntKind} {e:TypeId} (ht:qiu P t=some (ik,e)) {mv kv vv:Value} {m k v:AV} (hm:qbg w I μ σ mv m) (hk:qbg w I μ σ kv k) (hv:qbg w I μ σ vv v) (hko:qki ik k) (ho:Qs0 σ ik m v) :
  ∃w',(Instr.mapUpdate t mv kv vv).run P w=.ok () w'∧Rel w' I μ (muS σ (qct k) v m)∧qcn σ.length w I μ σ w' I μ (muS σ (qct k) v m):=by
 obtain⟨kt,d,hu,hd,hi⟩:=ql1 ht
 obtain⟨hf,rfl⟩:=q7p hk hko
 cases m with
 | mapr id=>
  obtain⟨hb,hik,_⟩:=ho
  obtain⟨b,es,clock,_,hal,_,h1,_,⟨h3,hst⟩,hM⟩:=h.mapOf hb
  cases hm with
  | mapr _ _ _ hh=>
   obtain⟨b',h4,rfl⟩:=hh
   have:=h4 hal
   rw[h1] at this
   simp only[Option.some.injEq,Prod.mk.injEq,and_true] at this
   subst this
   have hM':=hM
   rw[hik] at hM'
   have hck:=qf3 (P:=P) (w:=w) hd hi hf false
   rcases qgw hi hf es.toList 0 hM'.keys with⟨en,n,q1,q2,q3⟩|⟨q1,q2⟩
   ·have hrun:=run_findKey (P:=P) (w:=w) hd q3
    have hn:n<es.size:=by
     rcases Nat.lt_or_ge n es.size with h'|h'
     ·exact h'
     ·rw[List.getElem?_eq_none (by simpa using h')] at q1;cases q1
    have q1':es[n]? = some en:=by simpa using q1
    have hstay:(Instr.keyThatStays en.key (qcs ik (qct k))).run P w=.ok (qcs ik (qct k)) w:=by
     rw[q2]
     have:Instr.sameBits 10000 (qcs ik (qct k)) (qcs ik (qct k))=true:=by
      cases ik<;>cases qct k<;>simp[qcs,Instr.sameBits,MapKept.bytes_beq]
     simp[Instr.keyThatStays,this]
    obtain⟨r1,r2⟩:=h.setMap (clock':=clock) (es':=es.modify n fun e=>{e with key:=qcs ik (qct k),val:=vv}) (f':=qgs (qae σ id).mf (qct k) v) hb h1 h3 (MapKept.stamped_modify hst n _ (fun _ _=>rfl) (fun e0 _ h0=>by rw[q1'] at h0;cases h0;exact q2.symm)) (by
     rw[hik]
     have hget:∀j:Nat,(es.modify n fun e=>{e with key:=qcs ik (qct k),val:=vv}).toList[j]? = if n=j then(es.toList[j]?).map (fun e=>{e with key:=qcs ik (qct k),val:=vv}) else es.toList[j]? := fun j=>by
      rw[Array.toList_modify,List.getElem?_modify]
      by_cases e:n=j<;>simp[e]
     have hkeys:∀e'∈(es.modify n fun e=>{e with key:=qcs ik (qct k),val:=vv}).toList,∃j e0,es.toList[j]? = some e0∧e'.key=e0.key∧((j=n∧e'.val=vv)∨(j≠n∧e'=e0)):=fun e' he'=>by
      obtain⟨j,hj⟩:=List.getElem?_of_mem he'
      rw[hget] at hj
      by_cases e:n=j
      ·subst e
       rw[if_pos rfl,q1] at hj
       simp only[Option.map_some,Option.some.injEq] at hj
       subst hj
       exact⟨n,en,q1,q2.symm,.inl ⟨rfl,rfl⟩⟩
      ·rw[if_neg e] at hj
       exact⟨j,e',hj,rfl,.inr ⟨fun h=>e h.symm,rfl⟩⟩
     refine⟨fun e' he'=>?_,?_,fun k' u' hk' hu'=>?_,fun k' hk' hu' e' he'=>?_⟩
     ·obtain⟨j,e0,g1,g2,_⟩:=hkeys e' he'
      rw[g2];exact hM'.keys e0 (List.mem_of_getElem? g1)
     ·rw[List.pairwise_iff_getElem]
      intro i j hi' hj' hij
      have hp:=hM'.nodup
      rw[List.pairwise_iff_getElem] at hp
      have hli:i<es.toList.length:=by simpa using hi'
      have hlj:j<es.toList.length:=by simpa using hj'
      have gi:((es.modify n fun e=>{e with key:=qcs ik (qct k),val:=vv}).toList[i]).key=(es.toList[i]).key:=by
       have:=hget i
       rw[List.getElem?_eq_getElem hi',List.getElem?_eq_getElem hli] at this
       by_cases e:n=i
       ·subst e
        rw[if_pos rfl] at this
        simp only[Option.map_some,Option.some.injEq] at this
        rw[this]
        rw[List.getElem?_eq_getElem hli] at q1
        simp only[Option.some.injEq] at q1
        rw[q1];exact q2.symm
       ·rw[if_neg e] at this
        simp only[Option.some.injEq] at this
        rw[this]
      have gj:((es.modify n fun e=>{e with key:=qcs ik (qct k),val:=vv}).toList[j]).key=(es.toList[j]).key:=by
       have:=hget j
       rw[List.getElem?_eq_getElem hj',List.getElem?_eq_getElem hlj] at this
       by_cases e:n=j
       ·subst e
        rw[if_pos rfl] at this
        simp only[Option.map_some,Option.some.injEq] at this
        rw[this]
        rw[List.getElem?_eq_getElem hlj] at q1
        simp only[Option.some.injEq] at q1
        rw[q1];exact q2.symm
       ·rw[if_neg e] at this
        simp only[Option.some.injEq] at this
        rw[this]
      rw[gi,gj]
      exact hp i j hli hlj hij
     ·unfold qgs at hu'
      by_cases e:k'=qct k
      ·subst e
       rw[if_pos rfl] at hu'
       simp only[Option.some.injEq] at hu'
       subst hu'
       refine⟨{en with key:=qcs ik (qct k),val:=vv},List.mem_of_getElem? (i:=n) (by rw[hget,if_pos rfl,q1];rfl),rfl,hv⟩
      ·rw[if_neg e] at hu'
       obtain⟨e0,g1,g2,g3⟩:=hM'.hit k' u' hk' hu'
       obtain⟨j,hj⟩:=List.getElem?_of_mem g1
       have hne:n≠j:=fun h=>by
        subst h
        rw[q1] at hj
        simp only[Option.some.injEq] at hj
        subst hj
        exact e (qhi hk' hf (g2.symm.trans q2))
       exact⟨e0,List.mem_of_getElem? (i:=j) (by rw[hget,if_neg hne,hj]),g2,g3⟩
     ·unfold qgs at hu'
      by_cases e:k'=qct k
      ·rw[if_pos e] at hu';cases hu'
      ·rw[if_neg e] at hu'
       obtain⟨j,e0,g1,g2,_⟩:=hkeys e' he'
       rw[g2];exact hM'.miss k' hk' hu' e0 (List.mem_of_getElem? g1))
    refine⟨_,?_,r1,r2⟩
    simp only[Instr.mapUpdate,Sem.run_bind,run_underlying hu,Result.andThen_ok,MapKept.run_getObj_map h3,hck,hrun,Nat.zero_add,q1',Option.map_some,Option.getD_some,hstay,MapKept.run_setObj_map _ h3]
   ·have hrun:=run_findKey (P:=P) (w:=w) hd q2
    obtain⟨r1,r2⟩:=h.setMap (clock':=clock+1) (es':=es.push {key:=qcs ik (qct k),val:=vv,born:=clock}) (f':=qgs (qae σ id).mf (qct k) v) hb h1 h3 (MapKept.stamped_push hst q1) (by
     rw[hik]
     refine⟨fun e' he'=>?_,?_,fun k' u' hk' hu'=>?_,fun k' hk' hu' e' he'=>?_⟩
     ·rw[Array.toList_push] at he'
      rcases List.mem_append.1 he' with he'|he'
      ·exact hM'.keys e' he'
      ·simp at he';subst he';exact⟨_,hf,rfl⟩
     ·rw[Array.toList_push,List.pairwise_append]
      refine⟨hM'.nodup,by simp,fun a ha b' hb'=>?_⟩
      simp at hb';subst hb'
      exact q1 a ha
     ·rw[Array.toList_push]
      unfold qgs at hu'
      by_cases e:k'=qct k
      ·subst e
       rw[if_pos rfl] at hu'
       simp only[Option.some.injEq] at hu'
       subst hu'
       exact⟨_,List.mem_append_right _ List.mem_cons_self,rfl,hv⟩
      ·rw[if_neg e] at hu'
       obtain⟨e0,g1,g2,g3⟩:=hM'.hit k' u' hk' hu'
       exact⟨e0,List.mem_append_left _ g1,g2,g3⟩
     ·rw[Array.toList_push] at he'
      unfold qgs at hu'
      by_cases e:k'=qct k
      ·rw[if_pos e] at hu';cases hu'
      ·rw[if_neg e] at hu'
       rcases List.mem_append.1 he' with he'|he'
       ·exact hM'.miss k' hk' hu' e' he'
       ·simp at he';subst he'
        exact fun hc=>e (qhi hk' hf hc.symm))
    refine⟨_,?_,r1,r2⟩
    simp only[Instr.mapUpdate,Sem.run_bind,run_underlying hu,Result.andThen_ok,MapKept.run_getObj_map h3,hck,hrun,MapKept.run_setObj_map _ h3]
 | _=>exact ho.elim
theorem q8t (h:Rel w I μ σ) {t ty t2:TypeId} {ik:Option IntKind} {e:TypeId} (ht:qiu P t=some (ik,e)) {mv kv:Value} {id:Nat} {k:AV} (hm:qbg w I μ σ mv (.mapr id)) (hk:qbg w I μ σ kv k) (hko:qki ik k) (hb:(qae σ id).isMap=true) (hik:(qae σ id).mk=ik) :
  ∃w',(Builtin.delete_ #[t,t2] ty #[mv,kv]).run P w=.ok (.tuple #[]) w'∧Rel w' I μ (mdS σ (qct k) (.mapr id))∧qcn σ.length w I μ σ w' I μ (mdS σ (qct k) (.mapr id)):=by
 obtain⟨kt,d,hu,hd,hi⟩:=ql1 ht
 obtain⟨hf,rfl⟩:=q7p hk hko
 obtain⟨b,es,clock,_,hal,_,h1,_,⟨h3,hst⟩,hM⟩:=h.mapOf hb
 cases hm with
 | mapr _ _ _ hh=>
  obtain⟨b',h4,rfl⟩:=hh
  have:=h4 hal
  rw[h1] at this
  simp only[Option.some.injEq,Prod.mk.injEq,and_true] at this
  subst this
  have hM':=hM
  rw[hik] at hM'
  have hck:=qf3 (P:=P) (w:=w) hd hi hf es.isEmpty
  rcases qgw hi hf es.toList 0 hM'.keys with⟨en,n,q1,q2,q3⟩|⟨q1,q2⟩
  ·have hrun:=run_findKey (P:=P) (w:=w) hd q3
   have hn:n<es.size:=by
    rcases Nat.lt_or_ge n es.size with h'|h'
    ·exact h'
    ·rw[List.getElem?_eq_none (by simpa using h')] at q1;cases q1
   have hl:(es.eraseIdxIfInBounds n).toList=es.toList.eraseIdx n:=by
    simp[Array.eraseIdxIfInBounds,hn]
   have hmem:∀e',e'∈es.toList.eraseIdx n↔e'∈es.toList∧e'.key≠qcs ik (qct k):=fun e'=>by
    have hp:=hM'.nodup
    rw[List.pairwise_iff_getElem] at hp
    have hnl:n<es.toList.length:=by simpa using hn
    have hen:es.toList[n]=en:=by rw[List.getElem?_eq_getElem hnl] at q1;simpa using q1
    rw[List.mem_eraseIdx_iff_getElem?]
    constructor
    ·rintro⟨j,hj,hje⟩
     refine⟨List.mem_of_getElem? hje,fun hc=>?_⟩
     have hjl:j<es.toList.length:=by
      rcases Nat.lt_or_ge j es.toList.length with h'|h'
      ·exact h'
      ·rw[List.getElem?_eq_none h'] at hje;cases hje
     rw[List.getElem?_eq_getElem hjl] at hje
     simp only[Option.some.injEq] at hje
     rcases Nat.lt_or_ge j n with hlt|hge
     ·exact hp j n hjl hnl hlt (by rw[hen,hje,hc,q2])
     ·exact hp n j hnl hjl (by omega) (by rw[hen,hje,hc,q2])
    ·rintro⟨hm',hc⟩
     obtain⟨j,hj⟩:=List.getElem?_of_mem hm'
     refine⟨j,fun hjn=>?_,hj⟩
     subst hjn
     rw[q1] at hj
     simp only[Option.some.injEq] at hj
     subst hj
     exact hc q2
   obtain⟨r1,r2⟩:=h.setMap (clock':=clock) (es':=es.eraseIdxIfInBounds n) (f':=Qhm (qae σ id).mf (qct k)) hb h1 h3 (MapKept.stamped_erase hst n) (by
    rw[hik,hl]
    refine⟨fun e' he'=>hM'.keys e' ((hmem e').1 he').1,hM'.nodup.sublist (List.eraseIdx_sublist _ _),fun k' u' hk' hu'=>?_,fun k' hk' hu' e' he'=>?_⟩
    ·unfold Qhm at hu'
     by_cases e:k'=qct k
     ·rw[if_pos e] at hu';cases hu'
     ·rw[if_neg e] at hu'
      obtain⟨e0,g1,g2,g3⟩:=hM'.hit k' u' hk' hu'
      exact⟨e0,(hmem e0).2 ⟨g1,fun hc=>e (qhi hk' hf (g2.symm.trans hc))⟩,g2,g3⟩
    ·have:=(hmem e').1 he'
     unfold Qhm at hu'
     by_cases e:k'=qct k
     ·rw[e];exact this.2
     ·rw[if_neg e] at hu';exact hM'.miss k' hk' hu' e' this.1)
   refine⟨_,?_,r1,r2⟩
   simp[Builtin.delete_,run_underlying hu,MapKept.run_getObj_map h3,hck,hrun,MapKept.run_setObj_map _ h3]
  ·have hrun:=run_findKey (P:=P) (w:=w) hd q2
   obtain⟨r1,r2⟩:=h.setMap (clock':=clock) (es':=es) (f':=Qhm (qae σ id).mf (qct k)) hb h1 h3 hst (by
    rw[hik]
    refine⟨hM'.keys,hM'.nodup,fun k' u' hk' hu'=>?_,fun k' hk' hu' e' he'=>?_⟩
    ·unfold Qhm at hu'
     by_cases e:k'=qct k
     ·rw[if_pos e] at hu';cases hu'
     ·rw[if_neg e] at hu';exact hM'.hit k' u' hk' hu'
    ·unfold Qhm at hu'
     by_cases e:k'=qct k
     ·rw[e];exact q1 e' he'
     ·rw[if_neg e] at hu';exact hM'.miss k' hk' hu' e' he')
   refine⟨_,?_,r1,r2⟩
   simp[Builtin.delete_,run_underlying hu,MapKept.run_getObj_map h3,hck,hrun,MapKept.run_setObj_map _ h3]
theorem q5i (h:Rel w I μ σ) (t:TypeId) (ik:Option IntKind) :
  ∃w' μ',(Instr.makeMap t none).run P w=.ok (.map (some w.heap.size)) w'∧Rel w' I μ' (σ++[.map ik fun _=>none])∧qcn σ.length w I μ σ w' I μ' (σ++[.map ik fun _=>none])∧qbg w' I μ' (σ++[.map ik fun _=>none]) (.map (some w.heap.size)) (.mapr σ.length):=by
 refine⟨w.alloc (.map #[] 0),qed μ σ.length (w.heap.size,0),rfl,h.alloc _ _ ⟨w.heap.size,#[],0,qbt _ _ _,fun hI=>?_,⟨qfn _ _,MapKept.stamped_empty _⟩,?_⟩,qd3 h _ _ _,.mapr _ _ (by simp) ⟨w.heap.size,fun _=>qbt _ _ _,rfl⟩⟩
 ·have:=h.imm _ hI;omega
 ·exact⟨fun e he=>by simp at he,by simp,fun k v _ hv=>by simp at hv,fun k _ _ e he=>by simp at he⟩
theorem qbj (xs:List D) (off n:Nat) (z:D):(qho xs off n z).length=xs.length:=by simp[qho]
theorem qoi (xs:List D) (off n:Nat) (z:D) (i:Nat) (hi:i<xs.length):(qho xs off n z)[i]? = some (if off≤i∧i<off+n then z else xs.getD i default):=by
 simp[qho,hi]
theorem q8v (xs:List D) (off:Nat) (z:D):qho xs off 0 z=xs:=by
 apply List.ext_getElem?
 intro i
 rcases Nat.lt_or_ge i xs.length with hi|hi
 ·rw[qoi _ _ _ _ _ hi,if_neg (by omega),qer hi]
 ·rw[List.getElem?_eq_none hi,List.getElem?_eq_none (by rw[qbj];exact hi)]
def Qv6 (P:Program) (σ:Sto) (t:TypeId):AV→Prop
 | .osl id _ _=>(qae σ id).isOwnArr=true∧(match qcc P t with|some e=>(match qbs P e,qa3 P e with|some z,some _=>z.cells.size=(qae σ id).es|_,_=>False)|none=>False)
 | _=>False
def clX (P:Program) (t:TypeId):D:=match qcc P t with|some e=>(qa3 P e).getD default|none=>default
def clS (P:Program) (σ:Sto) (t:TypeId):AV→Sto
 | .osl id off len=>σ.set id (.arr (qae σ id).es (qho (qae σ id).xs off len (clX P t)))
 | _=>σ
theorem Qew (h:Rel w I μ σ) {t ty:TypeId} {v:Value} {u:AV} (hv:qbg w I μ σ v u) (ho:Qv6 P σ t u) :
  ∃w',(Builtin.clear_ #[t] ty #[v]).run P w=.ok (.tuple #[]) w'∧Rel w' I μ (clS P σ t u)∧qcn σ.length w I μ σ w' I μ (clS P σ t u):=by
 cases u with
 | osl id off len=>
  obtain⟨hb,ho⟩:=ho
  cases hte:qcc P t with
  | none=>rw[hte] at ho;exact ho.elim
  | some e=>
  cases hz:qbs P e with
  | none=>simp[hte,hz] at ho
  | some z=>
  cases hdz:qa3 P e with
  | none=>simp[hte,hz,hdz] at ho
  | some x=>
  simp only[hte,hz,hdz] at ho
  have hX:clX P t=x:=by unfold clX;rw[hte];simp[hdz]
  have hu:=qc5 hte
  cases hB:qae σ id with
  | arr es xs=>
   rw[hB] at ho
   simp only[Blk.es] at ho
   have hown:(qae σ id).own=true:=by rw[hB];rfl
   have hid:=qbc hown
   have hal:qcb σ id:=by unfold qcb;rw[hB];rfl
   simp only[clS,hB,Blk.es,Blk.xs,hX]
   clear hX
   have same:len=0→Rel w I μ (σ.set id (.arr es (qho xs off len x)))∧qcn σ.length w I μ σ w I μ (σ.set id (.arr es (qho xs off len x))):=fun hl=>by
    subst hl
    rw[q8v]
    have e2:σ.set id (.arr es xs)=σ:=by
     apply List.ext_getElem?
     intro i
     by_cases e:id=i
     ·subst e
      rw[List.getElem?_set_self hid]
      unfold qae at hB
      rw[List.getD_eq_getElem?_getD,List.getElem?_eq_getElem hid] at hB
      simp only[Option.getD_some] at hB
      rw[List.getElem?_eq_getElem hid,hB]
     ·rw[List.getElem?_set_ne e]
    rw[e2];exact⟨h,qcn.refl _ _ _ _ (Nat.le_refl _)⟩
   obtain⟨_,hh⟩:=qu1 hv
   rcases hh with⟨rfl,a,rfl⟩|⟨b,base,es',cap,h1,h2,rfl⟩
   ·obtain⟨r1,r2⟩:=same rfl
    refine⟨w,?_,r1,r2⟩
    cases a<;>simp[Builtin.clear_,run_underlying hu]
   ·by_cases hl:len=0
    ·obtain⟨r1,r2⟩:=same hl
     refine⟨w,?_,r1,r2⟩
     subst hl
     simp[Builtin.clear_,run_underlying hu]
    ·obtain⟨hμ,_,p3,p4,_⟩:=h1 hal
     rw[hB] at p3 p4
     simp only[Blk.es,Blk.xs] at p3 p4
     subst p3
     have hblk:=h.blk id hid
     rw[hB] at hblk
     rcases hblk with⟨hn,_⟩|⟨b',base',hμ',hnI,hpl,hsz,h5,h6,h7⟩
     ·rw[hμ] at hn;cases hn
     ·rw[hμ] at hμ'
      simp only[Option.some.injEq,Prod.mk.injEq] at hμ'
      obtain⟨rfl,rfl⟩:=hμ'
      obtain⟨hrow,hxl,_⟩:=qny (P:=P) (w:=w) (I:=I) hdz hz len es ho
      have hzc:Builtin.zeroCells z.cells len=(Array.range (len*es)).map (z.cells[· % z.cells.size]!):=by unfold Builtin.zeroCells;rw[ho]
      rw[←hzc] at hrow
      obtain⟨z1,z2,z3,z4,z5⟩:=hrow
      have hxm:x∈List.replicate len x:=by simp[hl]
      have hxf:=z4 x hxm
      have hle:(off+len)*es≤xs.length*es:=Nat.mul_le_mul_right es p4
      rw[Nat.add_mul] at hle
      obtain⟨w',hr,ww,hw⟩:=qiw (P:=P) (w:=w) (b:=b) (o:=base+off*es) (vs:=(Builtin.zeroCells z.cells len).toList) hpl (by simp[z1];omega) (fun c hc=>by
       obtain⟨q,hq⟩:=List.getElem?_of_mem hc
       have hql:q<len*es:=by
        rcases Nat.lt_or_ge q (len*es) with h'|h'
        ·exact h'
        ·rw[List.getElem?_eq_none (by simp[z1];exact h')] at hq;cases hq
       have hes:0<es:=by
        rcases Nat.eq_zero_or_pos es with h'|h'
        ·subst h';simp at hql
        ·exact h'
       have hi:q / es<len:=Nat.div_lt_of_lt_mul (by rw[Nat.mul_comm];exact hql)
       have hj:q % es<es:=Nat.mod_lt _ hes
       obtain⟨u,hu1,hu2⟩:=z5 (q / es) (q % es) x _ (by simp[hi]) (List.getElem?_eq_getElem (by rw[hxl];exact hj))
       rw[Nat.div_add_mod'] at hu1
       have:c=u:=by
        rw[Array.getElem?_toList,hu1] at hq
        simpa using hq.symm
       rw[this]
       exact hu2.oneCell (hxf _ (List.getElem_mem _)))
      have k:=qka h hown hμ ww (.arr es (qho xs off len x)) (by rw[hB];rfl) (by rw[hB];rfl) (by rw[hB];simp[Blk.xs,qbj])
      refine⟨w',?_,?_,k⟩
      ·have hlz:∃m,len=m+1:=⟨len-1,by omega⟩
       obtain⟨m,rfl⟩:=hlz
       simp[Builtin.clear_,run_underlying hu,qg1 hz,hr]
      ·refine h.upd hown hμ ww _ (by rw[hB];rfl) (by rw[hB];rfl) (by rw[hB];simp[Blk.xs,qbj]) (.inr ⟨b,base,hμ,hnI,ww.plain hpl,by rw[ww.bsize,qbj];exact hsz,fun y hy=>?_,fun y hy=>?_,fun i j y c hy hc=>?_⟩)
       ·unfold qho at hy
        obtain⟨i,hi,rfl⟩:=List.mem_map.1 hy
        simp only[List.mem_range] at hi
        split
        ·exact hxl
        ·exact h5 _ (qek hi)
       ·unfold qho at hy
        obtain⟨i,hi,rfl⟩:=List.mem_map.1 hy
        simp only[List.mem_range] at hi
        split
        ·exact hxf
        ·exact h6 _ (qek hi)
       ·have hil:i<xs.length:=by
         rcases Nat.lt_or_ge i xs.length with h'|h'
         ·exact h'
         ·rw[List.getElem?_eq_none (by rw[qbj];exact h')] at hy;cases hy
        rw[qoi _ _ _ _ _ hil] at hy
        simp only[Option.some.injEq] at hy
        rw[hw]
        have hvl:(Builtin.zeroCells z.cells len).toList.length=len*es:=by simpa using z1
        by_cases hin:off≤i∧i<off+len
        ·rw[if_pos hin] at hy
         subst hy
         have hjl:j<es:=by
          rw[←hxl]
          rcases Nat.lt_or_ge j x.cells.length with h'|h'
          ·exact h'
          ·rw[List.getElem?_eq_none h'] at hc;cases hc
         have e1:i*es=off*es+(i-off)*es:=by rw[←Nat.add_mul];congr 1;omega
         have e2:(i-off+1)*es≤len*es:=Nat.mul_le_mul_right es (by omega)
         rw[Nat.add_mul] at e2
         rw[hvl,if_pos (by omega)]
         obtain⟨u,hu1,hu2⟩:=z5 (i-off) j x c (by rw[List.getElem?_replicate,if_pos (by omega)]) hc
         refine⟨u,?_,hu2.keep k.imm k.rsame⟩
         rw[Array.getElem?_toList,←hu1]
         congr 1;omega
        ·rw[if_neg hin] at hy
         subst hy
         have hjl:j<es:=by
          rw[←h5 _ (qek hil)]
          rcases Nat.lt_or_ge j (xs.getD i default).cells.length with h'|h'
          ·exact h'
          ·rw[List.getElem?_eq_none h'] at hc;cases hc
         have hout:¬(base+off*es≤base+i*es+j∧base+i*es+j<base+off*es+len*es):=by
          rcases Nat.lt_or_ge i off with h'|h'
          ·have:(i+1)*es≤off*es:=Nat.mul_le_mul_right es h'
           rw[Nat.add_mul] at this
           omega
          ·have:(off+len)*es≤i*es:=Nat.mul_le_mul_right es (by omega)
           rw[Nat.add_mul] at this
           omega
         rw[hvl,if_neg hout]
         obtain⟨u,hu1,hu2⟩:=h7 i j _ c (qer hil) hc
         exact⟨u,hu1,hu2.keep k.imm k.rsame⟩
  | _=>rw[hB] at hb;simp[Blk.isOwnArr] at hb
 | _=>exact ho.elim
end Go.AM


namespace Go.AM
variable {P:Program} {w:World} {I:Im} {μ:Pos} {σ:Sto}
def AV.short (n:Nat):AV→AV
 | .d (.sl xs)=>.d (.sl (xs.take n))
 | .osl id off _=>.osl id off n
 | v=>v
theorem Qf3 (h:Rel w I μ σ) {es:Nat} {a:Option Addr} {L c n:Nat} {s:AV} (hv:qbg w I μ σ (.slice a L c) s) (ho:qrx σ es s) (hL:L=(s.elems σ).length) (hn:n≤L) :
  qbg w I μ σ (.slice a n c) (s.short n)∧(s.short n).elems σ=(s.elems σ).take n∧qrx σ es (s.short n):=by
 cases s with
 | d y=>
  cases y with
  | sl xs=>
   have hLx:L=xs.length:=hL
   have he:(AV.d (.sl xs)).short n=.d (.sl (xs.take n)):=rfl
   rw[he]
   refine⟨.d _ _ ?_,rfl,fun x hx=>ho x (List.mem_of_mem_take hx)⟩
   have hd:=hv.inv_d
   have hln:(xs.take n).length=n:=by simp;omega
   cases hd with
   | nil a cap=>
    have:n=0:=by omega
    subst this
    exact .nil _ _
   | sl b off es' cap _ vals hI hcap hes hfl hc hr=>
    have:=qdk.sl (w:=w) (I:=I) b off es' c (xs.take n) vals hI (by omega) (fun x hx=>hes x (List.mem_of_mem_take hx)) (fun x hx=>hfl x (List.mem_of_mem_take hx)) (fun i j hi hj=>hc i j (by omega) hj) (fun i j x y hx hy=>by
     rw[List.getElem?_take] at hx
     split at hx
     ·exact hr i j x y hx hy
     ·cases hx)
    rwa [hln] at this
  | _=>exact ho.elim
 | nils=>
  have hL0:L=0:=hL
  have:n=0:=by omega
  subst this
  rw[hL0] at hv
  exact⟨hv,rfl,trivial⟩
 | osl id off len=>
  obtain⟨h1,h2⟩:=ho
  have hal:qcb σ id:=by unfold qcb;cases hB:qae σ id<;>simp_all [Blk.isArr,Blk.isDead]
  refine⟨?_,?_,h1,h2⟩
  ·cases hv with
   | osl _ _ _ _ hid hh=>
    rcases hh with⟨rfl,a',e⟩|⟨b,base,es',cap,q1,q2,e⟩
    ·cases e
     have:n=0:=by omega
     subst this
     exact .osl _ _ _ _ hid (.inl ⟨rfl,_,rfl⟩)
    ·cases e
     refine .osl _ _ _ _ hid (.inr ⟨b,base,es',c,fun ha=>?_,by omega,rfl⟩)
     obtain⟨r1,r2,r3,r4,r5⟩:=q1 ha
     exact⟨r1,r2,r3,by omega,r5⟩
  ·have hle:n≤len:=by
    have:L≤len:=by rw[hL];simp[AV.elems];omega
    omega
   show((qae σ id).xs.drop off).take n=(((qae σ id).xs.drop off).take len).take n
   rw[List.take_take,Nat.min_eq_left hle]
 | _=>exact ho.elim
def cpX (xs:List D) (off n:Nat) (ys:List D):List D:=(List.range xs.length).map fun i=>if off≤i∧i<off+n then ys.getD (i-off) default else xs.getD i default
theorem qhm (xs:List D) (off n:Nat) (ys:List D):(cpX xs off n ys).length=xs.length:=by simp[cpX]
theorem Qj2 (xs:List D) (off n:Nat) (ys:List D) (i:Nat) (hi:i<xs.length):(cpX xs off n ys)[i]? = some (if off≤i∧i<off+n then ys.getD (i-off) default else xs.getD i default):=by
 simp[cpX,hi]
theorem Qnj (xs:List D) (off:Nat) (ys:List D):cpX xs off 0 ys=xs:=by
 apply List.ext_getElem?
 intro i
 rcases Nat.lt_or_ge i xs.length with hi|hi
 ·rw[Qj2 _ _ _ _ _ hi,if_neg (by omega),qer hi]
 ·rw[List.getElem?_eq_none hi,List.getElem?_eq_none (by rw[qhm];exact hi)]
def cpN (σ:Sto) (d s:AV):Nat:=min (s.elems σ).length d.len
def Qv4 (P:Program) (σ:Sto) (t:TypeId) (d s:AV):Prop:=
 match d with
 | .osl id off len=>(qae σ id).isOwnArr=true∧0<(qae σ id).es∧off+len≤(qae σ id).xs.length∧qrx σ (qae σ id).es s∧(match qcc P t with|some e=>tsz P e=some (qae σ id).es|none=>False)
 | _=>False
def cpS (σ:Sto) (d s:AV):Sto:=
 match d with
 | .osl id off len=>σ.set id (.arr (qae σ id).es (cpX (qae σ id).xs off (min (s.elems σ).length len) (s.elems σ)))
 | _=>σ
theorem Qj3 (h:Rel w I μ σ) {t t2 ty:TypeId} {dv sv:Value} {d s:AV} (hd:qbg w I μ σ dv d) (hs:qbg w I μ σ sv s) (ho:Qv4 P σ t d s) :
  ∃w',(Builtin.copy_ #[t,t2] ty #[dv,sv]).run P w=.ok (.int .i64 (cpN σ d s:Nat)) w'∧Rel w' I μ (cpS σ d s)∧qcn σ.length w I μ σ w' I μ (cpS σ d s):=by
 cases d with
 | osl id off len=>
  obtain⟨hb,hes,hxl,hsrc,ho⟩:=ho
  cases hte:qcc P t with
  | none=>rw[hte] at ho;exact ho.elim
  | some e=>
  simp only[hte] at ho
  have hu:=qc5 hte
  cases hB:qae σ id with
  | arr es xs=>
   rw[hB] at ho hes hxl hsrc
   simp only[Blk.es,Blk.xs] at ho hes hxl hsrc
   have hown:(qae σ id).own=true:=by rw[hB];rfl
   have hid:=qbc hown
   have hal:qcb σ id:=by unfold qcb;rw[hB];rfl
   obtain⟨a,c,news0,rfl,_⟩:=ql3 (P:=P) h hes hs hsrc
   obtain⟨n,hn⟩:∃n,n=min (s.elems σ).length len:=⟨_,rfl⟩
   have hcn:cpN σ (.osl id off len) s=n:=by rw[hn];rfl
   rw[hcn]
   simp only[cpS,hB,Blk.es,Blk.xs,←hn]
   obtain⟨g1,g2,g3⟩:=Qf3 h hs hsrc rfl (show n≤(s.elems σ).length by omega)
   obtain⟨a',c',news,e1,z1,z2,z3,z4,z5,z6,_⟩:=ql3 (P:=P) h hes g1 g3
   have hln:((s.short n).elems σ).length=n:=by rw[g2];simp;omega
   rw[hln] at e1 z1 z2
   cases e1
   have hf:(Builtin.firstCells es n (.slice a (s.elems σ).length c)).run P w=.ok news.toArray w:=by
    have:=z2 w rfl
    cases a<;>exact this
   rw[g2] at z3 z5 z6
   have hsz:(sizeOf e).run P w=.ok es w:=by
    unfold tsz at ho
    cases hi:P.info? e with
    | none=>rw[hi] at ho;cases ho
    | some i=>
     rw[hi] at ho
     simp only[Option.map_some,Option.some.injEq] at ho
     subst ho
     simp[sizeOf,typeInfo,hi]
   have same:n=0→Rel w I μ (σ.set id (.arr es (cpX xs off n (s.elems σ))))∧qcn σ.length w I μ σ w I μ (σ.set id (.arr es (cpX xs off n (s.elems σ)))):=fun hl=>by
    rw[hl,Qnj]
    have e2:σ.set id (.arr es xs)=σ:=by
     apply List.ext_getElem?
     intro i
     by_cases e:id=i
     ·subst e
      rw[List.getElem?_set_self hid]
      unfold qae at hB
      rw[List.getD_eq_getElem?_getD,List.getElem?_eq_getElem hid] at hB
      simp only[Option.getD_some] at hB
      rw[List.getElem?_eq_getElem hid,hB]
     ·rw[List.getElem?_set_ne e]
    rw[e2];exact⟨h,qcn.refl _ _ _ _ (Nat.le_refl _)⟩
   have hn0:n=0→news=[]:=fun hz=>by
    rw[hz] at z1
    exact List.eq_nil_of_length_eq_zero (by omega)
   obtain⟨_,hh⟩:=qu1 hd
   have hmin:Nat.min (s.elems σ).length len=n:=hn.symm
   rcases hh with⟨rfl,da,rfl⟩|⟨b,base,es',cap,h1,h2,rfl⟩
   ·have hz:n=0:=by omega
    obtain⟨r1,r2⟩:=same hz
    refine⟨w,?_,r1,r2⟩
    have hnn:=hn0 hz
    subst hnn
    have hf0:=hf
    rw[hz] at hf0
    cases da with
    | none=>simp[Builtin.copy_,run_underlying hu,Builtin.lenOf,hsz,hf0,goInt,hz]
    | some x=>simp[Builtin.copy_,run_underlying hu,Builtin.lenOf,hsz,hf0,goInt,storeCells,hz]
   ·by_cases hz:n=0
    ·obtain⟨r1,r2⟩:=same hz
     refine⟨w,?_,r1,r2⟩
     have hnn:=hn0 hz
     subst hnn
     simp[Builtin.copy_,run_underlying hu,Builtin.lenOf,hmin,hsz,hf,goInt,storeCells]
    ·obtain⟨hμ,_,p3,p4,_⟩:=h1 hal
     rw[hB] at p3 p4
     simp only[Blk.es,Blk.xs] at p3 p4
     subst p3
     have hblk:=h.blk id hid
     rw[hB] at hblk
     rcases hblk with⟨hne,_⟩|⟨b',base',hμ',hnI,hpl,hsz',h5,h6,h7⟩
     ·rw[hμ] at hne;cases hne
     ·rw[hμ] at hμ'
      simp only[Option.some.injEq,Prod.mk.injEq] at hμ'
      obtain⟨rfl,rfl⟩:=hμ'
      have hle:(off+n)*es≤xs.length*es:=Nat.mul_le_mul_right es (by omega)
      rw[Nat.add_mul] at hle
      obtain⟨w',hr,ww,hw⟩:=qiw (P:=P) (w:=w) (b:=b) (o:=base+off*es) (vs:=news) hpl (by rw[z1];omega) (fun u hu=>z4 u hu)
      have k:=qka h hown hμ ww (.arr es (cpX xs off n (s.elems σ))) (by rw[hB];rfl) (by rw[hB];rfl) (by rw[hB];simp[Blk.xs,qhm])
      have hmem:∀i,i<n→(s.elems σ).getD i default∈(s.elems σ).take n∧((s.elems σ).take n)[i]? = some ((s.elems σ).getD i default):=fun i hi=>by
       have hil:i<(s.elems σ).length:=by omega
       have e3:((s.elems σ).take n)[i]? = some ((s.elems σ).getD i default):=by
        rw[List.getElem?_take_of_lt hi,List.getElem?_eq_getElem hil,List.getD_eq_getElem?_getD,List.getElem?_eq_getElem hil];rfl
       exact⟨List.mem_of_getElem? e3,e3⟩
      refine⟨w',?_,?_,k⟩
      ·simp[Builtin.copy_,run_underlying hu,Builtin.lenOf,hmin,hsz,hf,goInt,hr]
      ·refine h.upd hown hμ ww _ (by rw[hB];rfl) (by rw[hB];rfl) (by rw[hB];simp[Blk.xs,qhm]) (.inr ⟨b,base,hμ,hnI,ww.plain hpl,by rw[ww.bsize,qhm];exact hsz',fun y hy=>?_,fun y hy=>?_,fun i j y c hy hc=>?_⟩)
       ·unfold cpX at hy
        obtain⟨i,hi,rfl⟩:=List.mem_map.1 hy
        simp only[List.mem_range] at hi
        split
        ·exact z5 _ (hmem _ (by omega)).1
        ·exact h5 _ (qek hi)
       ·unfold cpX at hy
        obtain⟨i,hi,rfl⟩:=List.mem_map.1 hy
        simp only[List.mem_range] at hi
        split
        ·exact z6 _ (hmem _ (by omega)).1
        ·exact h6 _ (qek hi)
       ·have hil:i<xs.length:=by
         rcases Nat.lt_or_ge i xs.length with h'|h'
         ·exact h'
         ·rw[List.getElem?_eq_none (by rw[qhm];exact h')] at hy;cases hy
        rw[Qj2 _ _ _ _ _ hil] at hy
        simp only[Option.some.injEq] at hy
        rw[hw]
        by_cases hin:off≤i∧i<off+n
        ·rw[if_pos hin] at hy
         obtain⟨m1,m2⟩:=hmem (i-off) (by omega)
         rw[hy] at m1 m2
         have hjl:j<es:=by
          rw[←z5 _ m1]
          rcases Nat.lt_or_ge j y.cells.length with h'|h'
          ·exact h'
          ·rw[List.getElem?_eq_none h'] at hc;cases hc
         have e1:i*es=off*es+(i-off)*es:=by rw[←Nat.add_mul];congr 1;omega
         have e2:(i-off+1)*es≤n*es:=Nat.mul_le_mul_right es (by omega)
         rw[Nat.add_mul] at e2
         rw[z1,if_pos (by omega)]
         obtain⟨u,hu1,hu2⟩:=z3 (i-off) j y c m2 hc
         refine⟨u,?_,hu2.keep k.imm k.rsame⟩
         rw[←hu1]
         congr 1;omega
        ·rw[if_neg hin] at hy
         subst hy
         have hjl:j<es:=by
          rw[←h5 _ (qek hil)]
          rcases Nat.lt_or_ge j (xs.getD i default).cells.length with h'|h'
          ·exact h'
          ·rw[List.getElem?_eq_none h'] at hc;cases hc
         have hout:¬(base+off*es≤base+i*es+j∧base+i*es+j<base+off*es+n*es):=by
          rcases Nat.lt_or_ge i off with h'|h'
          ·have:(i+1)*es≤off*es:=Nat.mul_le_mul_right es h'
           rw[Nat.add_mul] at this
           omega
          ·have:(off+n)*es≤i*es:=Nat.mul_le_mul_right es (by omega)
           rw[Nat.add_mul] at this
           omega
         rw[z1,if_neg hout]
         obtain⟨u,hu1,hu2⟩:=h7 i j _ c (qer hil) hc
         exact⟨u,hu1,hu2.keep k.imm k.rsame⟩
  | _=>rw[hB] at hb;simp[Blk.isOwnArr] at hb
 | _=>exact ho.elim
def Qf2 (P:Program) (t:TypeId) (u h m:AV):Prop:=
 match u with
 | .osl _ _ len=>h.isIntv=true∧m.isIntv=true∧0≤h.num∧h.num≤m.num∧m.num≤len∧(match qcc P t with|some e=>(tsz P e).isSome=true|none=>False)
 | _=>False
theorem q66 {t:TypeId} {v:Value} {kh km:IntKind} {hn mn:Int} {h m:AV} {u:AV} (hv:qbg w I μ σ v u) (e1:h.num=hn) (e2:m.num=mn) (ho:Qf2 P t u h m) :
  ∃z,(Instr.sliceAt t v none (some (.int kh hn)) (some (.int km mn))).run P w=.ok z w∧qbg w I μ σ z (slV 0 hn u):=by
 cases u with
 | osl id off len=>
  obtain⟨_,_,h0,h1,h2,h3⟩:=ho
  rw[e1] at h0 h1
  rw[e2] at h1 h2
  cases hte:qcc P t with
  | none=>rw[hte] at h3;exact h3.elim
  | some e=>
  rw[hte] at h3
  simp only at h3
  obtain⟨n,hs⟩:=Option.isSome_iff_exists.1 h3
  have hu:=qc5 hte
  obtain⟨hid,hh⟩:=qu1 hv
  have go:∀{a:Option Addr} {len' cap:Nat},v=.slice a len' cap→mn≤cap→(Instr.sliceAt t v none (some (.int kh hn)) (some (.int km mn))).run P w=.ok (.slice (if mn.toNat=0 then a else a.map (·.add (0*n))) (hn.toNat-0) (mn.toNat-0)) w:=by
   intro a len' cap hv' hc
   subst hv'
   have e:(Instr.sliceAt t (.slice a len' cap) none (some (.int kh hn)) (some (.int km mn))).run P w=(Instr.slice t (.slice a len' cap) none (some (.int kh hn)) (some (.int km mn))).run P w:=by simp[Instr.sliceAt,run_underlying hu]
   rw[e]
   have hb:(Instr.sliceBounds true len' cap none (some (.int kh hn)) (some (.int km mn))).run P w=.ok (0,hn.toNat,mn.toNat) w:=by
    unfold Instr.sliceBounds
    simp only[Sem.run_bind,Sem.run_pure,Result.andThen_ok,qdt (P:=P) (w:=w) (x:=.int km mn) (y:=cap) rfl (by omega) hc]
    rw[qdt (P:=P) (w:=w) (x:=.int kh hn) (y:=mn.toNat) rfl h0 (by omega)]
    simp
   simp only[Instr.slice,Sem.run_bind,run_underlying hu,Result.andThen_ok,hb,qcu hs,Sem.run_pure]
  rcases hh with⟨rfl,a,rfl⟩|⟨b,base,es,cap,q1,q2,rfl⟩
  ·have hm0:mn=0:=by simp at h2;omega
   have hh0:hn=0:=by omega
   subst hm0;subst hh0
   refine⟨_,go rfl (by simp),?_⟩
   exact .osl _ _ _ _ hid (.inl ⟨rfl,_,rfl⟩)
  ·refine⟨_,go rfl (by omega),?_⟩
   show qbg w I μ σ _ (.osl id (off+(0:Int).toNat) (hn.toNat-(0:Int).toNat))
   have e0:(0:Int).toNat=0:=rfl
   rw[e0,Nat.add_zero,Nat.sub_zero,Nat.sub_zero]
   by_cases hz:mn.toNat=0
   ·have hhz:hn.toNat=0:=by omega
    rw[hhz,hz]
    exact .osl _ _ _ _ hid (.inl ⟨rfl,_,rfl⟩)
   ·rw[if_neg hz]
    refine .osl _ _ _ _ hid (.inr ⟨b,base,es,mn.toNat,fun ha=>?_,by omega,?_⟩)
    ·obtain⟨r1,r2,r3,r4,r5⟩:=q1 ha
     refine⟨r1,r2,r3,by omega,?_⟩
     have:(off+mn.toNat)*es≤(off+cap)*es:=Nat.mul_le_mul_right es (by omega)
     omega
    ·simp[qe9]
 | _=>exact ho.elim
end Go.AM


namespace Go.AM
def AV.notNil:AV→Bool
 | .ptr ..|.eptr ..|.aptr ..|.fn ..=>true
 | _=>false
def q05 (c:Bool):AV→AV→AV
 | .d (.bool p),.d (.bool q)=>.d (.bool (bif c then p else q))
 | .d x,.d y=>.d (bif c then x else y)
 | a,b=>bif c then a else b
theorem qn8 (a b:AV):q05 true a b=a:=by
 unfold q05;split<;>rfl
theorem qlk (a b:AV):q05 false a b=b:=by
 unfold q05;split<;>rfl
def AV.strOf:AV→List UInt8
 | .d (.str s)=>s
 | _=>[]
def AV.isStrv:AV→Bool
 | .d (.str _)=>true
 | _=>false
def AV.tupAt:AV→Nat→AV
 | .tup vs,i=>vs.getD i .undef
 | _,_=>.undef
def AV.tupLen:AV→Nat
 | .tup vs=>vs.length
 | _=>0
def evU (Gl:qbd) (env:Env) (x:Operand):AV:=(evO Gl env x).un
def evG (Gl:qbd) (env:Env) (x:Operand):Bool:=(evO Gl env x).vg
def Qhq (Gl:qbd) (env:Env):Option Operand→Int
 | some x=>(evU Gl env x).num
 | none=>0
def Qi6 (Gl:qbd) (env:Env) (len:Nat):Option Operand→Int
 | some x=>(evU Gl env x).num
 | none=>len
def qib (Gl:qbd) (env:Env):Option Operand→Prop
 | some x=>(evU Gl env x).isIntv=true
 | none=>True
def Qvo (P:Program) (s t:TypeId) (u:AV):Prop:=(P.underlying s).isSome=true∧(qv8 P t).isSome=true∧u.isIntv=true
def cvV (P:Program) (t:TypeId) (u:AV):AV:=match qv8 P t with|some k=>.d (.int k (k.wrap u.num))|none=>.undef
def Qsj (σ:Sto) (ik:Option IntKind):AV→Prop
 | .mapr id=>(qae σ id).isMap=true∧(qae σ id).mk=ik
 | _=>False
def qa9:Op→Bool
 | .call {callee:=.builtin _,..}=>false
 | .call _=>true
 | _=>false
def qbp:Op→Bool
 | .alloc _|.box _ _|.buildSlice ..|.store ..|.makeSlice ..|.makeMap ..|.mapUpdate ..|.insert ..=>false
 | .call {callee:=.builtin .append,..}=>false
 | .call {callee:=.builtin .delete,..}=>false
 | .call {callee:=.builtin .clear,..}=>false
 | .call {callee:=.builtin .copy,..}=>false
 | _=>true
def qge (Gl:qbd) (env:Env) (parts:Array (Nat×Operand)):List (Nat×AV):=parts.toList.map fun p=>(p.1,evU Gl env p.2)
def q2d (P:Program) (Gl:qbd) (σ:Sto) (env:Env) (b:Builtin) (args:List Operand) (ts:List TypeId):Prop:=
 match b,args,ts with
 | .len,[x],[t]=>(evU Gl env x).hasLen P t=true
 | .append,[s,x],[t1,t2]=>Qs3 P σ t1 t2 (evU Gl env s) (evU Gl env x)
 | .min,args,_=>qh2 (args.map (evU Gl env))
 | .max,args,_=>qh2 (args.map (evU Gl env))
 | .delete,[m,k],[t,_]=>match qiu P t with|some (ik,_)=>qki ik (evU Gl env k)∧Qsj σ ik (evU Gl env m)|none=>False
 | .clear,[s],[t]=>Qv6 P σ t (evU Gl env s)
 | .copy,[d,s],[t,_]=>Qv4 P σ t (evU Gl env d) (evU Gl env s)
 | _,_,_=>False
def biV (Gl:qbd) (σ:Sto) (env:Env) (b:Builtin) (args:List Operand):AV:=
 match b,args with
 | .len,[x]=>.d (.int .i64 (evU Gl env x).len)
 | .append,[s,x]=>apV σ (evU Gl env s) (evU Gl env x)
 | .min,args=>Qvz (args.map (evU Gl env))
 | .max,args=>Qv1 (args.map (evU Gl env))
 | .copy,[d,s]=>.d (.int .i64 (cpN σ (evU Gl env d) (evU Gl env s)))
 | _,_=>.undef
def biS (P:Program) (Gl:qbd) (σ:Sto) (env:Env) (b:Builtin) (args:List Operand) (ts:List TypeId):Sto:=
 match b,args,ts with
 | .append,[s,x],[t1,_]=>apS P σ t1 (evU Gl env s) (evU Gl env x)
 | .delete,[m,k],_=>mdS σ (qct (evU Gl env k)) (evU Gl env m)
 | .clear,[s],[t]=>clS P σ t (evU Gl env s)
 | .copy,[d,s],_=>cpS σ (evU Gl env d) (evU Gl env s)
 | _,_,_=>σ
def qcg (P:Program) (Gl:qbd) (σ:Sto) (env:Env):Op→Prop
 | .move _=>True
 | .assign _=>True
 | .pick c _ _=>(evU Gl env c).isBoolv=true
 | .alloc t=>match qbs P t with|some z=>(qdb z).storable=true|none=>False
 | .box _ x=>(evU Gl env x).storable=true
 | .build t parts=>match qdl P t,qec P t with|some pl,some zc=>qql pl zc.length (qge Gl env parts)|_,_=>False
 | .buildSlice t n parts=>match n with
  | 0=>parts=#[]∧(match qcc P t with|some e=>(tsz P e).isSome=true|none=>False)
  | n+1=>Qez P σ t (n+1) (qge Gl env parts)
 | .load t x=>match qbm P t,tsz P t with|some g,some n=>Qdy σ g n (evU Gl env x)|_,_=>False
 | .store t a x=>match tsz P t with|some n=>Qua σ n (evU Gl env x) (evU Gl env a)|none=>False
 | .nilCheck x=>(evU Gl env x).notNil=true
 | .binOp op t x y _=>qf4 P t op (evU Gl env x) (evU Gl env y)
 | .unOp op _ x=>Qqv op (evU Gl env x)
 | .convert s t x=>Qvo P s t (evU Gl env x)
 | .makeFunc fn first _=>match fn with|.func _=>first=#[]|_=>False
 | .makeSlice t l c=>Qu1 P t (evU Gl env l) (evU Gl env c)
 | .slice t x lo hi mx=>match mx with
  | none=>qib Gl env lo∧qib Gl env hi∧Qdj P t σ (Qhq Gl env lo) (Qi6 Gl env (evU Gl env x).len hi) (evU Gl env x)
  | some m=>match lo,hi with|none,some h=>Qf2 P t (evU Gl env x) (evU Gl env h) (evU Gl env m)|_,_=>False
 | .fieldAddr s x f=>match qd6 P s f with|some (_,n,_)=>n≠0∧(evU Gl env x).isPtr=true|none=>False
 | .field s x f=>match qd6 P s f with|some (o,n,g)=>(evU Gl env x).isAgg=true∧o+n≤(evU Gl env x).ncells∧(g=true∨n=1)|none=>False
 | .indexAddr t x i=>(evU Gl env i).isIntv=true∧(match qkg P t with
  | some (none,es)=>q1w σ es (evU Gl env i).num (evU Gl env x)
  | some (some k,_)=>Qkr k (evU Gl env i).num (evU Gl env x)
  | none=>False)
 | .index t x i=>Qfs P t=true∧(evU Gl env x).isStrv=true∧(evU Gl env i).isIntv=true∧0≤(evU Gl env i).num∧(evU Gl env i).num<(evU Gl env x).strOf.length
 | .extract t i=>i<(evU Gl env t).tupLen
 | .lookup t m k _=>match qiu P t with|some (ik,e)=>qki ik (evU Gl env k)∧Qp5 σ ik (evU Gl env m)∧(qbs P e).isSome=true|none=>False
 | .mapUpdate t m k x=>match qiu P t with|some (ik,_)=>qki ik (evU Gl env k)∧Qs0 σ ik (evU Gl env m) (evU Gl env x)|none=>False
 | .insert t m k x=>match qiu P t with|some (ik,_)=>qki ik (evU Gl env k)∧Qs0 σ ik (evU Gl env m) (evU Gl env x)|none=>False
 | .makeMap t r=>r=none∧(qiu P t).isSome=true
 | .call c=>match c.callee with|.builtin b=>q2d P Gl σ env b c.args.toList c.argTypes.toList|_=>False
 | _=>False
def opV (P:Program) (Gl:qbd) (σ:Sto) (env:Env):Op→AV
 | .move x=>evU Gl env x
 | .assign x=>evU Gl env x
 | .pick c a b=>q05 (evU Gl env c).truth (evU Gl env a) (evU Gl env b)
 | .alloc _=>.ptr σ.length 0
 | .box _ _=>.ptr σ.length 0
 | .build t parts=>match qdl P t,qec P t with|some pl,some zc=>qgo (qod pl zc (qge Gl env parts))|_,_=>.undef
 | .buildSlice _ n _=>.osl (σ.length) 0 n
 | .load t x=>match qbm P t,tsz P t with|some g,some n=>ldV σ g n (evU Gl env x)|_,_=>.undef
 | .store ..=>.undef
 | .nilCheck x=>evU Gl env x
 | .binOp op _ x y _=>q60 op (evU Gl env x) (evU Gl env y)
 | .unOp op _ x=>unV op (evU Gl env x)
 | .convert _ t x=>cvV P t (evU Gl env x)
 | .makeFunc fn _ caps=>match fn with|.func f=>.fn f (caps.toList.map (evU Gl env))|_=>.undef
 | .makeSlice _ l _=>.osl σ.length 0 (evU Gl env l).num.toNat
 | .slice _ x lo hi _=>slV (Qhq Gl env lo) (Qi6 Gl env (evU Gl env x).len hi) (evU Gl env x)
 | .fieldAddr s x f=>match qd6 P s f with|some (o,_,_)=>(evU Gl env x).shift o|none=>.undef
 | .field s x f=>match qd6 P s f with|some (o,n,g)=>(if g=true then(evU Gl env x).subV o n else(evU Gl env x).cellAt o)|none=>.undef
 | .indexAddr t x i=>match qkg P t with
  | some (none,es)=>Qve es (evU Gl env i).num (evU Gl env x)
  | some (some _,es)=>(evU Gl env x).shift ((evU Gl env i).num.toNat*es)
  | none=>.undef
 | .index _ x i=>.d (.int .u8 ((evU Gl env x).strOf.getD (evU Gl env i).num.toNat 0).toNat)
 | .extract t i=>(evU Gl env t).tupAt i
 | .lookup t m k ok=>match qiu P t with|some (_,e)=>lkV σ (qce P e) (evU Gl env m) (evU Gl env k) ok|none=>.undef
 | .makeMap _ _=>.mapr σ.length
 | .call c=>match c.callee with|.builtin b=>biV Gl σ env b c.args.toList|_=>.undef
 | _=>.undef
def opS (P:Program) (Gl:qbd) (σ:Sto) (env:Env):Op→Sto
 | .alloc t=>match qbs P t with|some z=>σ++[.box (qdb z).ncells (qdb z)]|none=>σ
 | .box _ x=>σ++[.box (evU Gl env x).ncells (evU Gl env x)]
 | .buildSlice t n parts=>match n with
  | 0=>σ++[.arr (qqr P t) []]
  | n+1=>Qsm P σ t (n+1) (qge Gl env parts)
 | .store t a x=>match tsz P t with|some n=>stS σ n (evU Gl env x) (evU Gl env a)|none=>σ
 | .makeSlice t l _=>mkS P σ t (evU Gl env l)
 | .mapUpdate _ m k x=>muS σ (qct (evU Gl env k)) (evU Gl env x) (evU Gl env m)
 | .insert _ m k x=>muS σ (qct (evU Gl env k)) (evU Gl env x) (evU Gl env m)
 | .makeMap t _=>match qiu P t with|some (ik,_)=>σ++[.map ik fun _=>none]|none=>σ
 | .call c=>match c.callee with|.builtin b=>biS P Gl σ env b c.args.toList c.argTypes.toList|_=>σ
 | _=>σ
def gdL (Gl:qbd) (env:Env) (g:Bool):List Operand→Prop
 | []=>True
 | x::r=>(g=true→evG Gl env x=true)∧gdL Gl env g r
def qd0 (Gl:qbd) (env:Env) (g:Bool):Op→Prop
 | .pick c a b=>(g=true→evG Gl env c=true)∧(g=true→(evU Gl env c).truth=true→evG Gl env a=true)∧(g=true→(evU Gl env c).truth=false→evG Gl env b=true)
 | op=>gdL Gl env g op.operands.toList
variable {w:World} {I:Im} {μ:Pos} {σ:Sto}
structure qg5 (Gl:qbd) (w:World) (I:Im):Prop where
 sl:∀p∈Gl,Qe5 w I p.1 0 p.2.cells.length [p.2]
 ex:∀p∈Gl,∃c t fz,w.heap[p.1]? = some (.cells c t fz)∧c.size=p.2.cells.length
theorem qg5.nil (w:World) (I:Im):qg5 [] w I:=⟨fun p hp=>(by cases hp),fun p hp=>(by cases hp)⟩
theorem qg5.keep {Gl:qbd} {m:Nat} {w':World} {I':Im} {μ':Pos} {σ':Sto} (h:qg5 Gl w I) (k:qcn m w I μ σ w' I' μ' σ'):qg5 Gl w' I':=
 ⟨fun p hp=>(h.sl p hp).keep k.imm k.rsame,fun p hp=>by
  obtain⟨c,t,f,h1,h2⟩:=h.ex p hp
  exact⟨c,t,f,(k.rsame _ (h.sl p hp).imm).trans h1,h2⟩⟩
def qj1 (r:Result Next) (w:World) (I:Im) (μ:Pos) (σ:Sto) (v:AV) (σ':Sto):Prop:=
 ∃u w' I' μ',(r=.ok (.value u) w'∨(r=.ok .skip w'∧u=Go.undef))∧Rel w' I' μ' σ'∧qcn σ.length w I μ σ w' I' μ' σ'∧qbg w' I' μ' σ' u v
theorem qj1.same {P:Program} {s:Sem Value} {u:Value} {v:AV} (h:Rel w I μ σ) (hr:s.run P w=.ok u w) (hv:qbg w I μ σ u v):qj1 ((do pure (.value (←s)):Sem Next).run P w) w I μ σ v σ:=
 ⟨u,w,I,μ,.inl (by simp[hr]),h,qcn.refl _ _ _ _ (Nat.le_refl _),hv⟩
theorem qj1.of {P:Program} {s:Sem Value} {u:Value} {v:AV} {w':World} {I':Im} {μ':Pos} {σ':Sto} (hr:s.run P w=.ok u w') (h:Rel w' I' μ' σ') (k:qcn σ.length w I μ σ w' I' μ' σ') (hv:qbg w' I' μ' σ' u v) :
  qj1 ((do pure (.value (←s)):Sem Next).run P w) w I μ σ v σ':=
 ⟨u,w',I',μ',.inl (by simp[hr]),h,k,hv⟩
end Go.AM


namespace Go.AM
variable {P:Program} {w:World} {I:Im} {μ:Pos} {σ:Sto} {n:Nat} {Gl:qbd} {env:Env} {a:Act}
theorem qd9 (hG:qg5 Gl w I) (hE:qbz n w I μ σ env a) {x:Operand} (hg:evG Gl env x=true):qbg w I μ σ (a.eval x) (evU Gl env x):=Qok (Qsh hG.sl hE x) hg
theorem qlr:∀{l:List Operand},gdL Gl env true l→∀x∈l,evG Gl env x=true
 | y::r,h,x,hx=>by
  cases hx with
  | head=>exact h.1 rfl
  | tail _ hx=>exact qlr h.2 x hx
theorem q2a {v:Value} {u:AV} (hv:qbg w I μ σ v u) (hb:u.isBoolv=true):v=.bool u.truth:=by
 cases u with
 | d x=>
  have:=hv.inv_d
  cases this<;>simp_all [AV.isBoolv,AV.truth]
 | _=>simp[AV.isBoolv] at hb
theorem qrh (hG:qg5 Gl w I) (hE:qbz n w I μ σ env a) {l:List Operand} (hl:∀x∈l,evG Gl env x=true) :
  ∀(i:Nat) (v:Value) (u:AV),(l.map a.eval)[i]? = some v→(l.map (evU Gl env))[i]? = some u→qbg w I μ σ v u:=fun i v u hv hu=>by
 rw[List.getElem?_map] at hv hu
 cases hx:l[i]? with
 | none=>rw[hx] at hv;cases hv
 | some x=>
  rw[hx] at hv hu
  simp only[Option.map_some,Option.some.injEq] at hv hu
  subst hv;subst hu
  exact qd9 hG hE (hl x (List.mem_of_getElem? hx))
theorem q43 (hG:qg5 Gl w I) (hE:qbz n w I μ σ env a) {parts:Array (Nat×Operand)} (hl:∀x∈parts.toList.map (·.2),evG Gl env x=true) :
  (qge Gl env parts).map Prod.fst=(parts.map fun(i,x)=>(i,a.eval x)).toList.map Prod.fst ∧
  ∀(k:Nat) (p:Nat×AV) (q:Nat×Value),(qge Gl env parts)[k]? = some p→(parts.map fun(i,x)=>(i,a.eval x)).toList[k]? = some q→qbg w I μ σ q.2 p.2:=by
 refine⟨by simp[qge,Function.comp_def],fun k p q hp hq=>?_⟩
 unfold qge at hp
 rw[Array.toList_map,List.getElem?_map] at hq
 rw[List.getElem?_map] at hp
 cases hx:parts.toList[k]? with
 | none=>rw[hx] at hp;cases hp
 | some x=>
  rw[hx] at hp hq
  simp only[Option.map_some,Option.some.injEq] at hp hq
  subst hp;subst hq
  exact qd9 hG hE (hl _ (List.mem_map.2 ⟨x,List.mem_of_getElem? hx,rfl⟩))
theorem q6t (hR:Rel w I μ σ) (hG:qg5 Gl w I) (hE:qbz n w I μ σ env a) {b:Builtin} {args:Array Operand} {ts:Array TypeId} (ty:TypeId) (cs:Array Bool) (hl:∀x∈args.toList,evG Gl env x=true)
  (ho:q2d P Gl σ env b args.toList ts.toList):qj1 ((builtin b ts ty cs (args.map a.eval)).run P w) w I μ σ (biV Gl σ env b args.toList) (biS P Gl σ env b args.toList ts.toList):=by
 obtain⟨args⟩:=args
 obtain⟨ts⟩:=ts
 simp only at hl ho ⊢
 unfold q2d at ho
 split at ho
 ·rename_i x t
  exact qj1.same hR (u:=.int .i64 (evU Gl env x).len) (by simpa using Ql8 (P:=P) (qd9 hG hE (hl x (by simp))) ho) (.d _ _ (.int _ _))
 ·rename_i s x t1 t2
  obtain⟨z,w',μ',h1,h2,h3,h4⟩:=q84 (P:=P) (ty:=ty) hR (qd9 hG hE (hl s (by simp))) (qd9 hG hE (hl x (by simp))) ho
  exact qj1.of (by simpa using h1) h2 h3 h4
 ·rename_i args' _
  obtain⟨z,h1,h2⟩:=Ql5 (P:=P) (w:=w) (I:=I) (μ:=μ) (σ:=σ) (ts:=ts.toArray) (ty:=ty) (vs:=(args.map a.eval).toArray) (us:=args.map (evU Gl env)) (by simp) (fun i v u hv hu=>qrh hG hE hl i v u (by simpa using hv) hu) ho
  exact qj1.same hR (by simpa[builtin] using h1) h2
 ·rename_i args' _
  obtain⟨z,h1,h2⟩:=Ql6 (P:=P) (w:=w) (I:=I) (μ:=μ) (σ:=σ) (ts:=ts.toArray) (ty:=ty) (vs:=(args.map a.eval).toArray) (us:=args.map (evU Gl env)) (by simp) (fun i v u hv hu=>qrh hG hE hl i v u (by simpa using hv) hu) ho
  exact qj1.same hR (by simpa[builtin] using h1) h2
 ·rename_i m k t t2
  cases ht:qiu P t with
  | none=>rw[ht] at ho;exact ho.elim
  | some q=>
   obtain⟨ik,e⟩:=q
   rw[ht] at ho
   obtain⟨h1,h2⟩:=ho
   have hm:=qd9 hG hE (hl m (by simp))
   have hk:=qd9 hG hE (hl k (by simp))
   simp only[biS]
   cases hu:evU Gl env m with
   | mapr id=>
    rw[hu] at h2 hm
    obtain⟨w',h3,h4,h5⟩:=q8t (P:=P) (t2:=t2) (ty:=ty) hR ht hm hk h1 h2.1 h2.2
    exact qj1.of (by simpa using h3) h4 h5 (.undef _)
   | _=>rw[hu] at h2;exact h2.elim
 ·rename_i s t
  obtain⟨w',h1,h2,h3⟩:=Qew (P:=P) (ty:=ty) hR (qd9 hG hE (hl s (by simp))) ho
  exact qj1.of (by simpa using h1) h2 h3 (.undef _)
 ·rename_i d s t t2
  obtain⟨w',h1,h2,h3⟩:=Qj3 (P:=P) (t2:=t2) (ty:=ty) hR (qd9 hG hE (hl d (by simp))) (qd9 hG hE (hl s (by simp))) ho
  exact qj1.of (by simpa using h1) h2 h3 (.d _ _ (.int _ _))
 ·exact ho.elim
theorem qh0 (hR:Rel w I μ σ) (hG:qg5 Gl w I) (hE:qbz n w I μ σ env a) (o:Oper) (hc:qa9 o.op=false) (hgd:qd0 Gl env true o.op) (ho:qcg P Gl σ env o.op) :
  qj1 ((execOp a.eval o).run P w) w I μ σ (opV P Gl σ env o.op) (opS P Gl σ env o.op):=by
 obtain⟨dst,op,ty,pos,af,gd⟩:=o
 simp only at hc hgd ho ⊢
 have U:∀{x:Operand},x∈op.operands.toList→(∀c p q,op≠.pick c p q)→qbg w I μ σ (a.eval x) (evU Gl env x):=fun {x} hx hnp=>by
  refine qd9 hG hE (qlr (l:=op.operands.toList) ?_ x hx)
  cases op<;>first|exact hgd|(exact absurd rfl (hnp _ _ _))
 cases op with
 | move x=>exact⟨_,w,I,μ,.inl rfl,hR,qcn.refl _ _ _ _ (Nat.le_refl _),U (by simp[Op.operands]) (by simp)⟩
 | assign x=>exact⟨_,w,I,μ,.inl rfl,hR,qcn.refl _ _ _ _ (Nat.le_refl _),U (by simp[Op.operands]) (by simp)⟩
 | pick c p q=>
  obtain⟨g1,g2,g3⟩:=hgd
  have hb:=q2a (qd9 hG hE (g1 rfl)) ho
  cases ht:(evU Gl env c).truth with
  | true=>
   refine⟨a.eval p,w,I,μ,.inl ?_,hR,qcn.refl _ _ _ _ (Nat.le_refl _),?_⟩
   ·simp[execOp,hb,asBool,ht]
   ·simp only[opV,ht,qn8];exact qd9 hG hE (g2 rfl ht)
  | false=>
   refine⟨a.eval q,w,I,μ,.inl ?_,hR,qcn.refl _ _ _ _ (Nat.le_refl _),?_⟩
   ·simp[execOp,hb,asBool,ht]
   ·simp only[opV,ht,qlk];exact qd9 hG hE (g3 rfl ht)
 | alloc t=>
  simp only[qcg] at ho
  cases hz:qbs P t with
  | none=>rw[hz] at ho;exact ho.elim
  | some z=>
   rw[hz] at ho
   obtain⟨w',μ',h1,h2,h3,h4⟩:=Qe4 (P:=P) hR hz ho
   simp only[opV,opS,hz]
   exact qj1.of h1 h2 h3 h4
 | box t x=>
  obtain⟨w',μ',h1,h2,h3,h4⟩:=Qcw (P:=P) hR t (U (x:=x) (by simp[Op.operands]) (by simp)) ho
  exact qj1.of h1 h2 h3 h4
 | build t parts=>
  simp only[qcg] at ho
  split at ho
  ·rename_i pl zc h1 h2
   have hl:∀x∈parts.toList.map (·.2),evG Gl env x=true:=qlr (by simpa[qd0,Op.operands] using hgd)
   obtain⟨p1,p2⟩:=q43 (w:=w) (I:=I) (μ:=μ) (σ:=σ) (n:=n) (a:=a) hG hE hl
   obtain⟨z,h3,h4⟩:=Qey (P:=P) h1 h2 p1 p2 ho
   simp only[opV,opS,h1,h2]
   exact qj1.same hR h3 h4
  ·exact ho.elim
 | buildSlice t k parts=>
  have hl:∀x∈parts.toList.map (·.2),evG Gl env x=true:=qlr (by simpa[qd0,Op.operands] using hgd)
  obtain⟨p1,p2⟩:=q43 (w:=w) (I:=I) (μ:=μ) (σ:=σ) (n:=n) (a:=a) hG hE hl
  cases k with
  | zero=>
   simp only[qcg] at ho
   obtain⟨rfl,ho⟩:=ho
   cases hte:qcc P t with
   | none=>rw[hte] at ho;exact ho.elim
   | some e=>
    rw[hte] at ho
    obtain⟨es,hs⟩:=Option.isSome_iff_exists.1 ho
    obtain⟨z,w',μ',h1,h2,h3,h4⟩:=qq1 (P:=P) hR hte hs
    have:qqr P t=es:=by unfold qqr;rw[hte];simp[hs]
    simp only[opV,opS,this]
    exact qj1.of (by simpa using h1) h2 h3 h4
  | succ k=>
   obtain⟨z,w',I',μ',h1,h2,h3,h4⟩:=qvt (P:=P) hR p1 p2 ho
   exact qj1.of h1 h2 h3 h4
 | load t x=>
  simp only[qcg] at ho
  split at ho
  ·rename_i g k h1 h2
   obtain⟨u,h3,h4⟩:=q5l (P:=P) hR h1 h2 (U (x:=x) (by simp[Op.operands]) (by simp)) ho
   simp only[opV,opS,h1,h2]
   exact qj1.same hR h3 h4
  ·exact ho.elim
 | store t p x=>
  simp only[qcg] at ho
  split at ho
  ·rename_i k h1
   obtain⟨w',I',h3,h4,h5⟩:=Qdf (P:=P) hR h1 (U (x:=x) (by simp[Op.operands]) (by simp)) (U (x:=p) (by simp[Op.operands]) (by simp)) ho
   simp only[opV,opS,h1]
   exact⟨Go.undef,w',I',μ,.inr ⟨by simp[execOp,h3],rfl⟩,h4,h5,.undef _⟩
  ·exact ho.elim
 | nilCheck x=>
  have hx:=U (x:=x) (by simp[Op.operands]) (by simp)
  simp only[qcg] at ho
  refine⟨a.eval x,w,I,μ,.inl ?_,hR,qcn.refl _ _ _ _ (Nat.le_refl _),hx⟩
  generalize evU Gl env x=u at *
  generalize hv:a.eval x=v at *
  cases hx<;>simp[AV.notNil] at ho
  ·rename_i h;obtain⟨_,_,_,rfl⟩:=h;simp[execOp,hv]
  ·simp[execOp,hv]
  ·rename_i h;obtain⟨_,_,_,_,rfl⟩:=h;simp[execOp,hv]
  ·simp[execOp,hv]
 | lookup t m k ok=>
  simp only[qcg] at ho
  split at ho
  ·rename_i ik e h1
   obtain⟨h2,h3,h4⟩:=ho
   obtain⟨z,h5,h6⟩:=q7m (P:=P) hR h1 (U (x:=m) (by simp[Op.operands]) (by simp)) (U (x:=k) (by simp[Op.operands]) (by simp)) h2 h3 h4 ok
   simp only[opV,opS,h1]
   exact qj1.same hR h5 h6
  ·exact ho.elim
 | mapUpdate t m k x=>
  simp only[qcg] at ho
  split at ho
  ·rename_i ik e h1
   obtain⟨w',h3,h4,h5⟩:=qk6 (P:=P) hR h1 (U (x:=m) (by simp[Op.operands]) (by simp)) (U (x:=k) (by simp[Op.operands]) (by simp)) (U (x:=x) (by simp[Op.operands]) (by simp)) ho.1 ho.2
   exact⟨Go.undef,w',I,μ,.inr ⟨by simp[execOp,h3],rfl⟩,h4,h5,.undef _⟩
  ·exact ho.elim
 | insert t m k x=>
  simp only[qcg] at ho
  split at ho
  ·rename_i ik e h1
   obtain⟨w',h3,h4,h5⟩:=qk6 (P:=P) hR h1 (U (x:=m) (by simp[Op.operands]) (by simp)) (U (x:=k) (by simp[Op.operands]) (by simp)) (U (x:=x) (by simp[Op.operands]) (by simp)) ho.1 ho.2
   exact⟨Go.undef,w',I,μ,.inr ⟨by simp[execOp,h3],rfl⟩,h4,h5,.undef _⟩
  ·exact ho.elim
 | makeMap t r=>
  obtain⟨rfl,h1⟩:=ho
  obtain⟨q,h1⟩:=Option.isSome_iff_exists.1 h1
  obtain⟨ik,e⟩:=q
  obtain⟨w',μ',h2,h3,h4,h5⟩:=q5i (P:=P) hR t ik
  simp only[opV,opS,h1]
  exact qj1.of (by simpa using h2) h3 h4 h5
 | binOp op t x y yt=>
  obtain⟨z,h1,h2⟩:=Qe1 (P:=P) (op:=op) (t:=t) (x:=x) (y:=y) (U (x:=x) (by simp[Op.operands]) (by simp)) (U (x:=y) (by simp[Op.operands]) (by simp)) ho
  exact qj1.same hR h1 h2
 | unOp op t x=>
  obtain⟨z,h1,h2⟩:=Qfo (P:=P) (op:=op) (U (x:=x) (by simp[Op.operands]) (by simp)) ho
  exact qj1.same hR h1 h2
 | convert s t x=>
  obtain⟨h1,h2,h3⟩:=ho
  obtain⟨k,hk⟩:=Option.isSome_iff_exists.1 h2
  obtain⟨z,h4,h5⟩:=Qj4 (P:=P) hk h1 (U (x:=x) (by simp[Op.operands]) (by simp)) h3
  simp only[opV,cvV,hk,opS]
  exact qj1.same hR h4 h5
 | makeFunc fn first caps=>
  cases fn with
  | func f=>
   simp only[qcg] at ho
   subst ho
   have hl:∀x∈caps.toList,evG Gl env x=true:=qlr (by simpa[qd0,Op.operands] using hgd)
   refine qj1.same hR (u:=.func (.func f) #[] (caps.toList.map a.eval).toArray) ?_ (.fn f _ _ (by simp) (qrh hG hE hl))
   simp[Instr.makeFunc]
   apply Array.ext'
   simp
  | _=>exact ho.elim
 | makeSlice t l c=>
  obtain⟨z,w',μ',h1,h2,h3,h4⟩:=qwg (P:=P) hR (U (x:=l) (by simp[Op.operands]) (by simp)) (U (x:=c) (by simp[Op.operands]) (by simp)) ho
  exact qj1.of h1 h2 h3 h4
 | slice t x lo hi mx=>
  cases mx with
  | some m=>
   cases lo with
   | some _=>exact ho.elim
   | none=>
   cases hi with
   | none=>exact ho.elim
   | some h=>
   have hx:=U (x:=x) (by simp[Op.operands]) (by simp)
   have hok:Qf2 P t (evU Gl env x) (evU Gl env h) (evU Gl env m):=ho
   have hi1:(evU Gl env h).isIntv=true∧(evU Gl env m).isIntv=true:=by
    cases hu:evU Gl env x<;>rw[hu] at hok<;>first|exact⟨hok.1,hok.2.1⟩|exact hok.elim
   have e1:=qe7 (U (x:=h) (by simp[Op.operands]) (by simp)) hi1.1
   have e2:=qe7 (U (x:=m) (by simp[Op.operands]) (by simp)) hi1.2
   obtain⟨z,h2,h3⟩:=q66 (P:=P) hx rfl rfl hok
   refine qj1.same hR ?_ h3
   show(Instr.sliceAt t (a.eval x) none (some (a.eval h)) (some (a.eval m))).run P w=_
   rw[e1,e2];exact h2
  | none=>
   obtain⟨b1,b2,h1⟩:=ho
   have hx:=U (x:=x) (by simp[Op.operands]) (by simp)
   have hlo:((lo.map a.eval)=none∧Qhq Gl env lo=0)∨∃k,(lo.map a.eval)=some (.int k (Qhq Gl env lo)):=by
    cases lo with
    | none=>exact .inl ⟨rfl,rfl⟩
    | some l=>exact .inr ⟨_,by rw[Option.map_some,qe7 (U (x:=l) (by simp[Op.operands]) (by simp)) b1];rfl⟩
   have hhi:((hi.map a.eval)=none∧Qi6 Gl env (evU Gl env x).len hi=(evU Gl env x).len)∨∃k,(hi.map a.eval)=some (.int k (Qi6 Gl env (evU Gl env x).len hi)):=by
    cases hi with
    | none=>exact .inl ⟨rfl,rfl⟩
    | some l=>exact .inr ⟨_,by rw[Option.map_some,qe7 (U (x:=l) (by simp[Op.operands]) (by simp)) b2];rfl⟩
   obtain⟨z,h2,h3⟩:=Qdi (P:=P) hx hlo hhi h1
   exact qj1.same hR h2 h3
 | fieldAddr s x f=>
  simp only[qcg] at ho
  split at ho
  ·rename_i o k g h1
   obtain⟨z,h2,h3⟩:=qwj (P:=P) h1 ho.1 (U (x:=x) (by simp[Op.operands]) (by simp)) ho.2
   simp only[opV,opS,h1]
   exact qj1.same hR h2 h3
  ·exact ho.elim
 | field s x f=>
  simp only[qcg] at ho
  split at ho
  ·rename_i o k g h1
   obtain⟨z,h2,h3⟩:=Qep (P:=P) h1 (U (x:=x) (by simp[Op.operands]) (by simp)) ho.1 rfl ho.2.1 ho.2.2
   simp only[opV,opS,h1]
   exact qj1.same hR h2 h3
  ·exact ho.elim
 | indexAddr t x i=>
  obtain⟨hi,ho⟩:=ho
  have hx:=U (x:=x) (by simp[Op.operands]) (by simp)
  have hiv:=U (x:=i) (by simp[Op.operands]) (by simp)
  split at ho
  ·rename_i es h1
   obtain⟨z,h2,h3⟩:=Qmz (P:=P) h1 hx hiv hi ho
   simp only[opV,opS,h1]
   exact qj1.same hR h2 h3
  ·rename_i k es h1
   obtain⟨z,h2,h3⟩:=Qkq (P:=P) h1 hx hiv hi ho
   simp only[opV,opS,h1]
   exact qj1.same hR h2 h3
  ·exact ho.elim
 | index t x i=>
  obtain⟨h1,h2,h3,h4,h5⟩:=ho
  have hx:=U (x:=x) (by simp[Op.operands]) (by simp)
  have hiv:=U (x:=i) (by simp[Op.operands]) (by simp)
  have e:evU Gl env x=.d (.str (evU Gl env x).strOf):=by
   generalize evU Gl env x=u at *
   cases u with
   | d y=>cases y<;>simp_all [AV.isStrv,AV.strOf]
   | _=>simp[AV.isStrv] at h2
  rw[e] at hx
  obtain⟨z,h6,h7⟩:=Qej (P:=P) h1 hx hiv h3 h4 h5
  exact qj1.same hR h6 h7
 | extract t i=>
  have hx:=U (x:=t) (by simp[Op.operands]) (by simp)
  simp only[qcg] at ho
  generalize hu:evU Gl env t=u at *
  generalize hv:a.eval t=v at *
  cases hx with
  | tup vs cs hl hh=>
   simp only[AV.tupLen] at ho
   have hl':i<vs.length:=by omega
   refine qj1.same hR (u:=vs[i]) ?_ ?_
   ·simp[Instr.extract,hv,hl']
   ·simp only[opV,hu,AV.tupAt,List.getD_eq_getElem?_getD,List.getElem?_eq_getElem ho,Option.getD_some]
    exact hh i _ _ (List.getElem?_eq_getElem hl') (List.getElem?_eq_getElem ho)
  | _=>simp[AV.tupLen] at ho
 | call c=>
  obtain⟨callee,args,ats⟩:=c
  cases callee with
  | builtin b=>
   have hl:∀x∈args.toList,evG Gl env x=true:=qlr (by simpa[qd0,Op.operands,Call.operands] using hgd)
   have e:∃cs,(execOp a.eval ⟨dst,.call ⟨.builtin b,args,ats⟩,ty,pos,af,gd⟩).run P w=(builtin b ats ty cs (args.map a.eval)).run P w:=
    ⟨_,by simp only[execOp,resolve,invoke,Sem.run_bind,Sem.run_pure,Result.andThen_ok];rfl⟩
   obtain⟨cs,e⟩:=e
   rw[e]
   exact q6t (P:=P) hR hG hE (b:=b) (args:=args) (ts:=ats) ty cs hl ho
  | value f=>exact ho.elim
  | invoke r m=>exact ho.elim
 | _=>exact ho.elim
end Go.AM


namespace Go.AM
def qj2 (P:Program) (r:Result Next) (w:World) (Q:Value→World→Prop):Prop:=
 match r with
 | .ok (.enter f args) w'=>w'=w∧Calls P f args w fun e w''=>∃v,e=.returned v∧Q v w''
 | .ok (.value v) w'=>Q v w'
 | _=>False
def Qws (w:World) (I:Im) (μ:Pos) (σ:Sto) (R:AV→Sto→Prop) (v:Value) (w':World):Prop:=
 ∃r σ' I' μ',Rel w' I' μ' σ'∧qcn σ.length w I μ σ w' I' μ' σ'∧qbg w' I' μ' σ' v r∧R r σ'
def qal (P:Program) (Gl:qbd) (f:FuncId) (args:List AV) (σ:Sto) (R:AV→Sto→Prop):Prop:=
 ∀w I μ (vals:List Value),Rel w I μ σ→qg5 Gl w I→vals.length=args.length→(∀(i:Nat) (v:Value) (u:AV),vals[i]? = some v→args[i]? = some u→qbg w I μ σ v u) →
  qj2 P ((callFunc f vals.toArray).run P w) w (Qws w I μ σ R)
theorem qj2.mono {P:Program} {r:Result Next} {w:World} {Q Q':Value→World→Prop} (h:qj2 P r w Q) (hq:∀v w',Q v w'→Q' v w'):qj2 P r w Q':=by
 unfold qj2 at *
 split at h
 ·exact⟨h.1,h.2.mono fun e w'' ⟨v,hv,hr⟩=>⟨v,hv,hq _ _ hr⟩⟩
 ·exact hq _ _ h
 ·exact h.elim
theorem qal.mono {P:Program} {Gl:qbd} {f:FuncId} {args:List AV} {σ:Sto} {R R':AV→Sto→Prop} (h:qal P Gl f args σ R) (hr:∀r σ',R r σ'→R' r σ'):qal P Gl f args σ R':=
 fun w I μ vals h1 h2 h3 h4=>(h w I μ vals h1 h2 h3 h4).mono fun _ _ ⟨r,σ',I',μ',q1,q2,q3,q4⟩=>⟨r,σ',I',μ',q1,q2,q3,hr _ _ q4⟩
def qdj (P:Program) (Gl:qbd) (env:Env) (σ:Sto) (op:Op) (R:AV→Sto→Prop):Prop:=
 match op with
 | .call c=>match c.callee with
  | .value x=>match evU Gl env x with
   | .fn f caps=>qal P Gl f (c.args.toList.map (evU Gl env)++caps) σ R
   | _=>False
  | _=>False
 | _=>False
def qbo (v:AV):Bool:=match v with
 | .d (.bool _)=>true
 | .iff _ (.d (.bool _))=>true
 | _=>false
def qaq (v:AV) (b:Bool):Bool:=match v with
 | .d (.bool x)=>x==b
 | .iff g (.d (.bool x))=>g&&(x==b)
 | _=>false
def qbb (all:Array Oper) (env:Env) (j:Nat):AV:=match (all[j]?).bind (·.dst) with
 | some d=>qem env d
 | none=>.undef
def qb7 (n:Nat):Option Tmp→Bool
 | some d=>decide (d<n)
 | none=>true
def putE (env:Env) (dst:Option Tmp) (v:AV):Env:=match dst with
 | some d=>(d,v)::env
 | none=>env
def Ext (σ s:Sto):Prop:=σ.length≤s.length∧∀id,(qae σ id).isDead=true∨qae s id=qae σ id∨qae s id=(qae σ id).frozen
theorem Ext.refl (σ:Sto):Ext σ σ:=⟨Nat.le_refl _,fun _=>.inr (.inl rfl)⟩
def qvw (acc:List Nat) (l:List Edge) (s:Nat):Nat:=l.foldl (fun s e=>if Region.binds .any e=true then s ||| 2 ^ e.on ||| acc.getD e.on 0 else s) s
def Qnu:List Oper→List Nat→List Nat
 | [],acc=>acc
 | o::r,acc=>Qnu r (acc++[qvw acc o.after.toList 0])
def qcy:Op→Bool
 | .alloc _|.box _ _|.buildSlice ..|.makeSlice ..|.makeMap ..=>true
 | _=>false
def q5n (all:Array Oper):Bool:=decide (0<all.size)&&(List.range (all.size-1)).all (fun j=>((Qnu all.toList []).getD (all.size-1) 0).testBit j)
def Qkz (all:Array Oper):Bool:=q5n all&&(List.range all.size).any fun i=>(List.range i).any fun j=>(match all[j]?,all[i]? with|some x,some y=>qcy x.op&&qcy y.op&&x.guard.isNone&&y.guard.isNone|_,_=>false)&&!((Qnu all.toList []).getD i 0).testBit j
theorem Qm6 {all:Array Oper} (h:Qkz all=true):q5n all=true:=by
 simp only[Qkz,Bool.and_eq_true] at h
 exact h.1
def qas (P:Program) (Gl:qbd) (n:Nat) (all:Array Oper) (draw:Bool):List Oper→Env→Sto→(Env→Sto→Prop)→Prop
 | [],env,σ,K=>K env σ
 | o::rest,env,σ,K=>
  qb7 n o.dst=true ∧
  match o.guard with
  | none=>qd0 Gl env true o.op ∧
   (if qa9 o.op=true then
    (if draw=true then(∃r0,(∀s,Ext σ s→qdj P Gl env s o.op (fun r σ'=>r=r0∧σ'=s))∧qas P Gl n all draw rest (putE env o.dst r0) σ K) ∨
      (rest=[]∧q5n all=true∧qdj P Gl env σ o.op (fun r σ'=>K (putE env o.dst r) σ'))∨Qkz all=true
     else qdj P Gl env σ o.op (fun r σ'=>qas P Gl n all draw rest (putE env o.dst r) σ' K))
    else qcg P Gl σ env o.op∧qas P Gl n all draw rest (putE env o.dst (opV P Gl σ env o.op)) (opS P Gl σ env o.op) K)
  | some (j,b)=>if qcy o.op=true then qbo (qbb all env j)=true∧qaq (qbb all env j) b=true∧qd0 Gl env true o.op∧qcg P Gl σ env o.op∧qas P Gl n all draw rest (putE env o.dst (.iff true (opV P Gl σ env o.op))) (opS P Gl σ env o.op) K
   else qbp o.op=true∧qbo (qbb all env j)=true∧qd0 Gl env (qaq (qbb all env j) b) o.op ∧
   (if qa9 o.op=true then
    ∃r0,(qaq (qbb all env j) b=true→∀s,Ext σ s→qdj P Gl env s o.op (fun r σ'=>r=r0∧σ'=s))∧qas P Gl n all draw rest (putE env o.dst (.iff (qaq (qbb all env j) b) r0)) σ K
    else(qaq (qbb all env j) b=true→qcg P Gl σ env o.op)∧qas P Gl n all draw rest (putE env o.dst (.iff (qaq (qbb all env j) b) (opV P Gl σ env o.op))) σ K)
variable {P:Program} {w:World} {I:Im} {μ:Pos} {σ:Sto} {n:Nat} {Gl:qbd} {env:Env} {a:Act}
theorem qhh {op:Op} (h:qbp op=true):opS P Gl σ env op=σ:=by
 cases op<;>first|rfl|(simp[qbp] at h;done)|skip
 rename_i c
 obtain⟨callee,args,ts⟩:=c
 cases callee<;>first|rfl|skip
 rename_i b
 cases b<;>first|rfl|(simp[qbp] at h;done)
theorem qhv {all:Array Oper} {o:Oper} (h:o.guard=none) (tmps:Array Value):Region.wanted o (yielded all tmps)=true:=by simp[Region.wanted,h]
theorem qfe (hE:qbz n w I μ σ env a) {all:Array Oper} {o:Oper} {j:Nat} {b:Bool} (h:o.guard=some (j,b)) (hs:qbo (qbb all env j)=true):Region.wanted o (yielded all a.tmps)=qaq (qbb all env j) b:=by
 unfold qbb at *
 cases hd:(all[j]?).bind (·.dst) with
 | none=>rw[hd] at hs;simp[qbo] at hs
 | some d=>
  rw[hd] at hs
  simp only at hs
  have hv:=hE.slot d
  have hy:yielded all a.tmps j=match a.tmps.getD d Go.undef with|.bool b=>some b|_=>none:=by
   unfold yielded
   cases ho:all[j]? with
   | none=>simp[ho] at hd
   | some o'=>
    simp[ho] at hd
    simp[hd]
    cases a.tmps[d]? with
    | none=>rfl
    | some q=>cases q<;>rfl
  simp only[Region.wanted,h,hy]
  generalize a.tmps.getD d Go.undef=v at *
  generalize qem env d=u at *
  cases u with
  | d x=>
   have:=hv.inv_d
   cases this<;>simp_all [qbo,qaq]
  | iff g x=>
   cases x with
   | d y=>
    cases y with
    | bool c=>
     cases hv with
     | iff _ _ _ h1 h2=>
      cases g with
      | true=>
       have:=(h1 rfl).inv_d
       cases this
       simp[qaq]
      | false=>
       have:=h2 rfl
       subst this
       simp[qaq,Go.undef]
    | _=>simp[qbo] at hs
   | _=>simp[qbo] at hs
  | _=>simp[qbo] at hs
theorem qbz.putE (hE:qbz n w I μ σ env a) {dst:Option Tmp} (hd:qb7 n dst=true) {v:Value} {u:AV} (hv:qbg w I μ σ v u):qbz n w I μ σ (AM.putE env dst u) (a.put dst v):=by
 cases dst with
 | none=>exact hE
 | some d=>exact hE.put (by simpa[qb7] using hd) hv
theorem qgi (hR:Rel w I μ σ) (hG:qg5 Gl w I) (hE:qbz n w I μ σ env a) {o:Oper} (hgd:qd0 Gl env true o.op) {R:AV→Sto→Prop} (h:qdj P Gl env σ o.op R) :
  qj2 P ((execOp a.eval o).run P w) w (Qws w I μ σ R):=by
 obtain⟨dst,op,ty,pos,af,gd⟩:=o
 simp only at hgd h
 unfold qdj at h
 split at h
 ·rename_i c
  obtain⟨callee,args,ats⟩:=c
  simp only at h hgd
  split at h
  ·rename_i x
   split at h
   ·rename_i f caps hu
    have hgl:=qlr (l:=(Op.call ⟨.value x,args,ats⟩).operands.toList) hgd
    have hx:=qd9 hG hE (hgl x (by simp[Op.operands,Call.operands]))
    rw[hu] at hx
    have hl:∀y∈args.toList,evG Gl env y=true:=fun y hy=>hgl y (by simp[Op.operands,Call.operands];exact .inr (by simpa using hy))
    generalize hav:a.eval x=fv at *
    cases hx with
    | fn _ vs _ hvl hvr=>
     have:=h w I μ (args.toList.map a.eval++vs) hR hG (by simp[hvl]) (fun i v u hv hu=>by
      rcases Nat.lt_or_ge i args.toList.length with hi|hi
      ·rw[List.getElem?_append_left (by simpa using hi)] at hv hu
       exact qrh hG hE hl i v u hv hu
      ·rw[List.getElem?_append_right (by simpa using hi)] at hv hu
       simp only[List.length_map] at hv hu
       exact hvr _ v u hv hu)
     have e:(execOp a.eval ⟨dst,.call ⟨.value x,args,ats⟩,ty,pos,af,gd⟩).run P w=(callFunc f (args.toList.map a.eval++vs).toArray).run P w:=by
      simp only[execOp,resolve,hav,Deferred.ofValue,Sem.run_bind,Sem.run_pure,Result.andThen_ok,invoke]
      congr 2
      apply Array.ext'
      simp
     rw[e];exact this
   ·exact h.elim
  ·exact h.elim
 ·exact h.elim
theorem Oper.wp_of_call {o:Oper} {next:Act→World→Prop} {Q:Exit→Act→World→Prop} {R:Value→World→Prop} (h:qj2 P ((execOp a.eval o).run P w) w R) (hn:∀v w',R v w'→next (a.put o.dst v) w'):o.wp P a w next Q:=by
 unfold Oper.wp
 generalize (execOp a.eval o).run P w=r at *
 unfold qj2 at h
 split at h
 ·obtain⟨rfl,hc⟩:=h
  rw[Oper.upon_enter]
  exact hc.mono fun e w'' ⟨v,he,hr⟩=>by subst he;exact hn v w'' hr
 ·rw[Oper.upon_value];exact hn _ _ h
 ·exact h.elim
theorem Oper.wp_of_goes {o:Oper} {next:Act→World→Prop} {Q:Exit→Act→World→Prop} {v:AV} {σ':Sto} (h:qj1 ((execOp a.eval o).run P w) w I μ σ v σ')
  (hn:∀u w' I' μ',Rel w' I' μ' σ'→qcn σ.length w I μ σ w' I' μ' σ'→qbg w' I' μ' σ' u v→next (a.put o.dst u) w'):o.wp P a w next Q:=by
 obtain⟨u,w',I',μ',h1,h2,h3,h4⟩:=h
 unfold Oper.wp
 rcases h1 with h1|⟨h1,rfl⟩
 ·rw[h1,Oper.upon_value];exact hn u w' I' μ' h2 h3 h4
 ·rw[h1,Oper.upon_skip];exact hn _ w' I' μ' h2 h3 h4
theorem qdf {all:Array Oper} {m:Nat} {K:Env→Sto→Prop} {Q:Exit→Act→World→Prop}:∀(ops:List Oper) (env:Env) (σ:Sto),qas P Gl n all false ops env σ K→∀{w:World} {I:Im} {μ:Pos} {a:Act},
  Rel w I μ σ→qg5 Gl w I→qbz n w I μ σ env a→m≤σ.length →
  (∀env' σ' w' I' μ' a',K env' σ'→Rel w' I' μ' σ'→qg5 Gl w' I'→qbz n w' I' μ' σ' env' a'→qcn m w I μ σ w' I' μ' σ'→Q .normal a' w')→wpList P all Q ops a w
 | [],env,σ,h,w,I,μ,a,hR,hG,hE,hm,hq=>hq env σ w I μ a h hR hG hE (qcn.refl _ _ _ _ hm)
 | o::rest,env,σ,h,w,I,μ,a,hR,hG,hE,hm,hq=>by
  obtain⟨hd,h⟩:=h
  cases hgd:o.guard with
  | none=>
   rw[hgd] at h
   obtain⟨hg,h⟩:=h
   unfold wpList
   rw[if_pos (qhv hgd _)]
   left
   cases hc:qa9 o.op with
   | true=>
    simp only[hc,if_true,Bool.false_eq_true,if_false] at h
    refine Oper.wp_of_call (qgi hR hG hE hg h) fun v w' ⟨r,σ',I',μ',q1,q2,q3,q4⟩=>?_
    exact qdf rest _ _ q4 q1 (hG.keep q2) ((hE.keep q2).putE hd q3) (Nat.le_trans hm q2.len) fun env' σ2 w2 I2 μ2 a2 k1 k2 k3 k4 k5=>hq env' σ2 w2 I2 μ2 a2 k1 k2 k3 k4 ((q2.mono hm).trans k5)
   | false=>
    simp only[hc,Bool.false_eq_true,if_false] at h
    refine Oper.wp_of_goes (qh0 hR hG hE o hc hg h.1) fun u w' I' μ' q1 q2 q3=>?_
    exact qdf rest _ _ h.2 q1 (hG.keep q2) ((hE.keep q2).putE hd q3) (Nat.le_trans hm q2.len) fun env' σ2 w2 I2 μ2 a2 k1 k2 k3 k4 k5=>hq env' σ2 w2 I2 μ2 a2 k1 k2 k3 k4 ((q2.mono hm).trans k5)
  | some jb=>
   obtain⟨j,b⟩:=jb
   rw[hgd] at h
   simp only at h
   by_cases ha:qcy o.op=true
   ·rw[if_pos ha] at h
    obtain⟨hs,ht,hg,h1,h2⟩:=h
    have hw:=qfe hE (all:=all) hgd hs
    have hc:qa9 o.op=false:=by
     generalize o.op=op at *
     cases op<;>first|rfl|(simp[qcy] at ha;done)
    unfold wpList
    rw[hw,ht,if_pos rfl]
    left
    refine Oper.wp_of_goes (qh0 hR hG hE o hc hg h1) fun u w' I' μ' q1 q2 q3=>?_
    exact qdf rest _ _ h2 q1 (hG.keep q2) ((hE.keep q2).putE hd (.iff true _ _ (fun _=>q3) (fun h=>by cases h))) (Nat.le_trans hm q2.len) fun env' σ2 w2 I2 μ2 a2 k1 k2 k3 k4 k5=>hq env' σ2 w2 I2 μ2 a2 k1 k2 k3 k4 ((q2.mono hm).trans k5)
   rw[if_neg ha] at h
   obtain⟨hqt,hs,hg,h⟩:=h
   have hw:=qfe hE (all:=all) hgd hs
   unfold wpList
   cases ht:qaq (qbb all env j) b with
   | false=>
    rw[hw,ht,if_neg (by simp)]
    rw[ht] at h
    have:∃x,qas P Gl n all false rest (putE env o.dst (.iff false x)) σ K:=by
     cases hc:qa9 o.op with
     | true=>simp only[hc,if_true] at h;obtain⟨r0,_,h⟩:=h;exact⟨r0,h⟩
     | false=>simp only[hc,Bool.false_eq_true,if_false] at h;exact⟨_,h.2⟩
    obtain⟨x,hx⟩:=this
    exact qdf rest _ _ hx hR hG (hE.putE hd (.iff false _ x (fun h=>by cases h) (fun _=>rfl))) hm hq
   | true=>
    rw[hw,ht,if_pos rfl]
    left
    rw[ht] at h hg
    cases hc:qa9 o.op with
    | true=>
     simp only[hc,if_true] at h
     obtain⟨r0,h1,h2⟩:=h
     refine Oper.wp_of_call (qgi hR hG hE hg (h1 trivial σ (Ext.refl σ))) fun v w' ⟨r,σ',I',μ',q1,q2,q3,q4⟩=>?_
     obtain⟨rfl,rfl⟩:=q4
     exact qdf rest _ _ h2 q1 (hG.keep q2) ((hE.keep q2).putE hd (.iff true _ _ (fun _=>q3) (fun h=>by cases h))) (Nat.le_trans hm q2.len) fun env' σ2 w2 I2 μ2 a2 k1 k2 k3 k4 k5=>hq env' σ2 w2 I2 μ2 a2 k1 k2 k3 k4 ((q2.mono hm).trans k5)
    | false=>
     simp only[hc,Bool.false_eq_true,if_false] at h
     have hgo:=qh0 hR hG hE o hc hg (h.1 trivial)
     rw[qhh hqt] at hgo
     refine Oper.wp_of_goes hgo fun u w' I' μ' q1 q2 q3=>?_
     exact qdf rest _ _ h.2 q1 (hG.keep q2) ((hE.keep q2).putE hd (.iff true _ _ (fun _=>q3) (fun h=>by cases h))) (Nat.le_trans hm q2.len) fun env' σ2 w2 I2 μ2 a2 k1 k2 k3 k4 k5=>hq env' σ2 w2 I2 μ2 a2 k1 k2 k3 k4 ((q2.mono hm).trans k5)
end Go.AM


namespace Go.AM
def Qo6 (l:List Operand):List Tmp:=l.filterMap fun|.tmp t=>some t|_=>none
def qkq (all:Array Oper) (o:Oper):List Tmp:=
 Qo6 o.op.operands.toList++(match o.guard with|some (j,_)=>((all[j]?).bind (·.dst)).toList|none=>[])
variable {P:Program} {Gl:qbd} {env env':Env} {σ σ' s:Sto} {n:Nat} {all:Array Oper}
def qv2 (l:List Tmp) (env env':Env):Prop:=∀t∈l,qem env t=qem env' t
def Qk1 (env env':Env) (l:List Operand):Prop:=∀x∈l,∀t,x=.tmp t→qem env t=qem env' t
theorem qh8 {x:Operand} (h:∀t,x=.tmp t→qem env t=qem env' t):evU Gl env x=evU Gl env' x:=by
 cases x with
 | tmp t=>simp only[evU,evO,h t rfl]
 | _=>rfl
theorem qrd {x:Operand} (h:∀t,x=.tmp t→qem env t=qem env' t):evG Gl env x=evG Gl env' x:=by
 cases x with
 | tmp t=>simp only[evG,evO,h t rfl]
 | _=>rfl
theorem Qch {g:Bool}:∀{l:List Operand},Qk1 env env' l→gdL Gl env g l=gdL Gl env' g l
 | [],_=>rfl
 | x::l,h=>by
  simp only[gdL]
  rw[qrd (h x (by simp)),Qch (l:=l) fun y hy=>h y (by simp[hy])]
theorem q1c {l:List Operand} (h:Qk1 env env' l):l.map (evU Gl env)=l.map (evU Gl env'):=
 List.map_congr_left fun x hx=>qh8 (h x hx)
theorem qzr {l:Array (Nat×Operand)} (h:Qk1 env env' (l.toList.map (·.2))):qge Gl env l=qge Gl env' l:=
 List.map_congr_left fun p hp=>by rw[qh8 (h p.2 (List.mem_map.2 ⟨p,hp,rfl⟩))]
theorem q0k {o:Option Operand} (h:Qk1 env env' o.toList) (k:Nat):qib Gl env o=qib Gl env' o∧Qhq Gl env o=Qhq Gl env' o∧Qi6 Gl env k o=Qi6 Gl env' k o:=by
 cases o with
 | none=>exact⟨rfl,rfl,rfl⟩
 | some x=>simp only[qib,Qhq,Qi6,qh8 (Gl:=Gl) (h x (by simp))];exact⟨trivial,trivial,trivial⟩
theorem qu9 {g:Bool} {op:Op} (h:Qk1 env env' op.operands.toList):qd0 Gl env g op=qd0 Gl env' g op:=by
 cases op<;>first
  | exact Qch h
  | skip
 rename_i c a b
 simp only[Op.operands] at h
 simp only[qd0,qrd (Gl:=Gl) (h c (by simp)),qh8 (Gl:=Gl) (h c (by simp)),qrd (Gl:=Gl) (h a (by simp)),qrd (Gl:=Gl) (h b (by simp))]
theorem Qso {b:Builtin} {args:List Operand} {ts:List TypeId} (h:Qk1 env env' args) :
  q2d P Gl σ env b args ts=q2d P Gl σ env' b args ts∧biV Gl σ env b args=biV Gl σ env' b args∧biS P Gl σ env b args ts=biS P Gl σ env' b args ts:=by
 have hm:=q1c (Gl:=Gl) h
 have hu:∀x∈args,evU Gl env x=evU Gl env' x:=fun x hx=>qh8 (h x hx)
 refine⟨?_,?_,?_⟩
 ·unfold q2d
  split<;>first|rfl|rw[hm]|simp[hu]
 ·unfold biV
  split<;>first|rfl|rw[hm]|simp[hu]
 ·unfold biS
  split<;>first|rfl|rw[hm]|simp[hu]
theorem Qrc {op:Op} (h:Qk1 env env' op.operands.toList):qcg P Gl σ env op=qcg P Gl σ env' op∧opV P Gl σ env op=opV P Gl σ env' op∧opS P Gl σ env op=opS P Gl σ env' op:=by
 have hu:∀x∈op.operands.toList,evU Gl env x=evU Gl env' x:=fun x hx=>qh8 (h x hx)
 cases op with
 | build t ps=>
  have:=qzr (Gl:=Gl) (l:=ps) (by simpa[Op.operands] using h)
  simp only[qcg,opV,opS,this];exact⟨trivial,trivial,trivial⟩
 | buildSlice t k ps=>
  have:=qzr (Gl:=Gl) (l:=ps) (by simpa[Op.operands] using h)
  simp only[qcg,opV,opS,this];exact⟨trivial,trivial,trivial⟩
 | makeFunc fn first caps=>
  have:caps.toList.map (evU Gl env)=caps.toList.map (evU Gl env'):=q1c fun x hx=>h x (by simp[Op.operands];exact .inr (by simpa using hx))
  simp only[qcg,opV,opS,this];exact⟨trivial,trivial,trivial⟩
 | slice t x lo hi mx=>
  have e0:evU Gl env x=evU Gl env' x:=hu x (by simp[Op.operands])
  have e1:=fun k=>q0k (Gl:=Gl) (o:=lo) (fun y hy=>h y (by simp[Op.operands];exact .inr (.inl (by simpa using hy)))) k
  have e2:=fun k=>q0k (Gl:=Gl) (o:=hi) (fun y hy=>h y (by simp[Op.operands];exact .inr (.inr (.inl (by simpa using hy))))) k
  simp only[qcg,opV,opS,e0,(e1 0).1,(e1 0).2.1,(e2 0).1,(e2 _).2.2]
  refine⟨?_,trivial,trivial⟩
  cases mx with
  | none=>rfl
  | some m=>
   cases lo with
   | some _=>rfl
   | none=>
    cases hi with
    | none=>rfl
    | some hh=>
     simp only
     rw[hu hh (by simp[Op.operands]),hu m (by simp[Op.operands])]
 | call c=>
  obtain⟨callee,args,ats⟩:=c
  cases callee with
  | builtin b=>
   have:=Qso (P:=P) (Gl:=Gl) (σ:=σ) (b:=b) (args:=args.toList) (ts:=ats.toList) (fun x hx=>h x (by simpa[Op.operands,Call.operands] using hx))
   simp only[qcg,opV,opS]
   exact this
  | _=>exact⟨rfl,rfl,rfl⟩
 | _=>
  simp only[Op.operands,List.mem_cons,List.not_mem_nil,or_false,forall_eq_or_imp,forall_eq] at hu
  first
   | (simp only[qcg,opV,opS];exact⟨trivial,trivial,trivial⟩)
   | (simp only[qcg,opV,opS,hu];exact⟨trivial,trivial,trivial⟩)
   | exact⟨rfl,rfl,rfl⟩
theorem qvp {op:Op} {R:AV→Sto→Prop} (h:Qk1 env env' op.operands.toList):qdj P Gl env σ op R=qdj P Gl env' σ op R:=by
 cases op with
 | call c=>
  obtain⟨callee,args,ats⟩:=c
  cases callee with
  | value x=>
   have e:evU Gl env x=evU Gl env' x:=qh8 (h x (by simp[Op.operands,Call.operands]))
   have e2:args.toList.map (evU Gl env)=args.toList.map (evU Gl env'):=q1c fun y hy=>h y (by simp[Op.operands,Call.operands];exact .inr (by simpa using hy))
   simp only[qdj,e,e2]
  | _=>rfl
 | _=>rfl
theorem Qq2 {l:List Operand} (h:qv2 (Qo6 l) env env'):Qk1 env env' l:=by
 intro x hx t e
 subst e
 exact h t (List.mem_filterMap.2 ⟨_,hx,rfl⟩)
theorem Ext.box (h:Ext σ s) {id:Nat} (hb:(qae σ id).isBox=true):qae s id=qae σ id:=by
 rcases h.2 id with h1|h1|h1
 ·cases hB:qae σ id<;>simp_all [Blk.isDead,Blk.isBox]
 ·exact h1
 ·cases hB:qae σ id<;>simp_all [Blk.isBox,Blk.frozen]
theorem Ext.arr (h:Ext σ s) {id:Nat} (hb:(qae σ id).isArr=true):(qae s id).isArr=true∧(qae s id).es=(qae σ id).es∧(qae s id).xs=(qae σ id).xs:=by
 rcases h.2 id with h1|h1|h1
 ·cases hB:qae σ id<;>simp_all [Blk.isDead,Blk.isArr]
 ·rw[h1];exact⟨hb,rfl,rfl⟩
 ·rw[h1];cases hB:qae σ id<;>simp_all [Blk.isArr,Blk.frozen,Blk.es,Blk.xs]
theorem Ext.map (h:Ext σ s) {id:Nat} (hb:(qae σ id).isMap=true):qae s id=qae σ id:=by
 rcases h.2 id with h1|h1|h1
 ·cases hB:qae σ id<;>simp_all [Blk.isDead,Blk.isMap]
 ·exact h1
 ·cases hB:qae σ id<;>simp_all [Blk.isMap,Blk.frozen]
theorem Ext.trans {s':Sto} (h:Ext σ s) (k:Ext s s'):Ext σ s':=by
 refine⟨Nat.le_trans h.1 k.1,fun id=>?_⟩
 rcases h.2 id with h1|h1|h1
 ·exact .inl h1
 ·rcases k.2 id with k1|k1|k1
  ·rw[h1] at k1;exact .inl k1
  ·exact .inr (.inl (k1.trans h1))
  ·rw[h1] at k1;exact .inr (.inr k1)
 ·rcases k.2 id with k1|k1|k1
  ·rw[h1] at k1
   left
   cases hB:qae σ id<;>simp_all [Blk.isDead,Blk.frozen]
  ·exact .inr (.inr (k1.trans h1))
  ·rw[h1] at k1
   refine .inr (.inr (k1.trans ?_))
   cases hB:qae σ id<;>rfl
theorem Ext.append (B:Blk):Ext σ (σ++[B]):=by
 refine⟨by simp,fun id=>?_⟩
 rcases Nat.lt_or_ge id σ.length with h|h
 ·exact .inr (.inl (qa8 h))
 ·left;unfold qae;rw[List.getD_eq_getElem?_getD,List.getElem?_eq_none h];rfl
theorem Ext.freeze (id:Nat):Ext σ (freeze σ id):=by
 refine⟨by simp[AM.freeze],fun j=>?_⟩
 unfold AM.freeze
 by_cases e:id=j
 ·subst e
  rcases Nat.lt_or_ge id σ.length with h|h
  ·exact .inr (.inr (qbl h))
  ·left;unfold qae;rw[List.getD_eq_getElem?_getD,List.getElem?_eq_none h];rfl
 ·exact .inr (.inl (qbq e))
theorem Ext.freezeL:∀(l:List Nat) {σ:Sto},Ext σ (freezeL σ l)
 | [],σ=>Ext.refl σ
 | i::l,σ=>(Ext.freeze i).trans (Ext.freezeL l)
theorem Ql9 (h:Ext σ s) {g:Bool} {k:Nat} {v:AV} (ho:Qdy σ g k v):Qdy s g k v∧ldV s g k v=ldV σ g k v:=by
 cases v with
 | ptr id off=>simp only[Qdy,ldV] at ho ⊢;rw[h.box ho.1];exact⟨ho,rfl⟩
 | eptr es xs i off=>exact⟨ho,rfl⟩
 | aptr id i off=>
  simp only[Qdy,ldV] at ho ⊢
  obtain⟨e1,e2,e3⟩:=h.arr ho.1
  rw[e2,e3,e1];exact⟨⟨rfl,ho.2⟩,rfl⟩
 | _=>exact ho.elim
theorem Qi2 (h:Ext σ s) {es:Nat} {i:Int} {v:AV} (ho:q1w σ es i v):q1w s es i v:=by
 cases v with
 | osl id off len=>
  simp only[q1w] at ho ⊢
  obtain⟨e1,e2,e3⟩:=h.arr ho.2.2.1
  rw[e2,e1];exact⟨ho.1,ho.2.1,rfl,ho.2.2.2⟩
 | rsl id len=>
  simp only[q1w] at ho ⊢
  rw[h.box ho.2.2.1];exact ho
 | d x=>cases x<;>exact ho
 | _=>exact ho.elim
theorem Qlg (h:Ext σ s) {t:TypeId} {lo hi:Int} {v:AV} (ho:Qdj P t σ lo hi v):Qdj P t s lo hi v:=by
 cases v with
 | osl id off len=>
  simp only[Qdj] at ho ⊢
  obtain⟨e1,e2,e3⟩:=h.arr ho.2.2.2.2.1
  rw[e2,e1];exact⟨ho.1,ho.2.1,ho.2.2.1,ho.2.2.2.1,rfl,ho.2.2.2.2.2⟩
 | d x=>cases x<;>exact ho
 | _=>exact ho
theorem Qht (σ s:Sto) (args:List Operand) (ts:List TypeId):q2d P Gl s env .len args ts=q2d P Gl σ env .len args ts∧biV Gl s env .len args=biV Gl σ env .len args:=by
 match args,ts with
 | [],_=>exact⟨rfl,rfl⟩
 | [_],[]=>exact⟨rfl,rfl⟩
 | [_],[_]=>exact⟨rfl,rfl⟩
 | [_],_::_::_=>exact⟨rfl,rfl⟩
 | _::_::_,_=>exact⟨rfl,rfl⟩
theorem Qpv (h:Ext σ s) {op:Op} (hq:qbp op=true) (ho:qcg P Gl σ env op):qcg P Gl s env op∧opV P Gl s env op=opV P Gl σ env op:=by
 cases op with
 | load t x=>
  simp only[qcg,opV] at ho ⊢
  cases h1:qbm P t<;>cases h2:tsz P t<;>simp only[h1,h2] at ho ⊢
  exact Ql9 h ho
 | indexAddr t x i=>
  simp only[qcg,opV] at ho ⊢
  refine⟨⟨ho.1,?_⟩,trivial⟩
  have h2:=ho.2
  split<;>rename_i e<;>simp only[e] at h2
  ·exact Qi2 h h2
  ·exact h2
 | slice t x lo hi mx=>
  simp only[qcg,opV] at ho ⊢
  cases mx with
  | some _=>exact⟨ho,trivial⟩
  | none=>exact⟨⟨ho.1,ho.2.1,Qlg h ho.2.2⟩,trivial⟩
 | lookup t m k ok=>
  simp only[qcg,opV] at ho ⊢
  cases h1:qiu P t with
  | none=>simp only[h1] at ho
  | some q=>
   obtain⟨ik,e⟩:=q
   simp only[h1] at ho ⊢
   obtain⟨h2,h3,h4⟩:=ho
   generalize evU Gl env m=u at *
   cases u with
   | mapr id=>
    have he:=h.map h3.1
    simp only[Qp5,lkV,lkF,he] at h3 ⊢
    exact⟨⟨h2,h3,h4⟩,trivial⟩
   | d x=>
    have e:Qp5 s ik (.d x)=Qp5 σ ik (.d x):=by cases x<;>first|rfl|(rename_i v;cases v<;>first|rfl|(rename_i p;cases p<;>rfl))
    rw[e];exact⟨⟨h2,h3,h4⟩,rfl⟩
   | _=>exact h3.elim
 | call c=>
  obtain⟨callee,args,ats⟩:=c
  cases callee with
  | builtin b=>
   simp only[qcg,opV] at ho ⊢
   cases b<;>first|exact⟨ho,rfl⟩|(simp[qbp] at hq;done)|skip
   obtain⟨q1,q2⟩:=Qht (P:=P) (Gl:=Gl) (env:=env) σ s args.toList ats.toList
   exact⟨by rw[q1];exact ho,q2⟩
  | _=>exact ho.elim
 | _=>first|exact⟨ho,rfl⟩|(simp[qbp] at hq;done)
def qjl:Op→Bool
 | .load ..|.indexAddr ..|.slice ..|.lookup ..=>false
 | .call {callee:=.builtin .append,..}=>false
 | .call {callee:=.builtin .delete,..}=>false
 | .call {callee:=.builtin .clear,..}=>false
 | .call {callee:=.builtin .copy,..}=>false
 | .call {callee:=.builtin _,..}=>true
 | .call _=>false
 | op=>qbp op
theorem qll {op:Op} (h:qjl op=true):qbp op=true∧qa9 op=false:=by
 cases op with
 | call c=>
  obtain⟨callee,args,ats⟩:=c
  cases callee with
  | builtin b=>cases b<;>simp_all [qjl,qbp,qa9]
  | _=>simp[qjl] at h
 | _=>simp_all [qjl,qbp,qa9]
theorem Qlz {op:Op} (h:qjl op=true) (σ s:Sto):qcg P Gl s env op=qcg P Gl σ env op∧opV P Gl s env op=opV P Gl σ env op:=by
 cases op with
 | call c=>
  obtain⟨callee,args,ats⟩:=c
  cases callee with
  | builtin b=>cases b<;>first|exact⟨rfl,rfl⟩|(simp[qjl] at h;done)|exact Qht σ s _ _
  | _=>simp[qjl] at h
 | _=>first|exact⟨rfl,rfl⟩|(simp[qjl,qbp] at h;done)
theorem Qpw {op:Op} (h:qcy op=true) (ho:qcg P Gl σ env op):Ext σ (opS P Gl σ env op):=by
 cases op with
 | alloc t=>
  simp only[qcg,opS] at ho ⊢
  split
  ·exact Ext.append _
  ·exact Ext.refl _
 | box t x=>exact Ext.append _
 | buildSlice t k ps=>
  cases k with
  | zero=>exact Ext.append _
  | succ k=>exact(Ext.freezeL _).trans (Ext.append _)
 | makeSlice t l c=>exact Ext.append _
 | makeMap t r=>
  simp only[opS]
  split
  ·exact Ext.append _
  ·exact Ext.refl _
 | _=>simp[qcy] at h
def qnt (P:Program) (Gl:qbd) (n:Nat) (all:Array Oper) (o:Oper) (env:Env) (σ:Sto) (v:AV) (σ':Sto):Prop:=
 qb7 n o.dst=true ∧
 match o.guard with
 | none=>qd0 Gl env true o.op ∧
  (if qa9 o.op=true then(∀s,Ext σ s→qdj P Gl env s o.op (fun r s'=>r=v∧s'=s))∧σ'=σ
   else qcg P Gl σ env o.op∧v=opV P Gl σ env o.op∧σ'=opS P Gl σ env o.op)
 | some (j,b)=>if qcy o.op=true then qbo (qbb all env j)=true∧qaq (qbb all env j) b=true∧qd0 Gl env true o.op∧qcg P Gl σ env o.op∧v=.iff true (opV P Gl σ env o.op)∧σ'=opS P Gl σ env o.op
  else qbp o.op=true∧qbo (qbb all env j)=true∧qd0 Gl env (qaq (qbb all env j) b) o.op∧σ'=σ ∧
  (if qa9 o.op=true then ∃r0,v=.iff (qaq (qbb all env j) b) r0∧(qaq (qbb all env j) b=true→∀s,Ext σ s→qdj P Gl env s o.op (fun r s'=>r=r0∧s'=s))
   else ∃r0,v=.iff (qaq (qbb all env j) b) r0∧(qaq (qbb all env j) b=true→qcg P Gl σ env o.op∧r0=opV P Gl σ env o.op))
def qlw (P:Program) (Gl:qbd) (n:Nat) (all:Array Oper):List Oper→Env→Sto→(Env→Sto→Prop)→Prop
 | [],env,σ,K=>K env σ
 | o::rest,env,σ,K=>∃v σ',qnt P Gl n all o env σ v σ'∧qlw P Gl n all rest (putE env o.dst v) σ' K
theorem qj5 (hl:q5n all=false) {K:Env→Sto→Prop}:∀(l:List Oper) (env:Env) (σ:Sto),qas P Gl n all true l env σ K→qlw P Gl n all l env σ K
 | [],_,_,h=>h
 | o::rest,env,σ,h=>by
  simp only[qas] at h
  simp only[qlw,qnt]
  cases hg:o.guard with
  | none=>
   rw[hg] at h
   simp only at h ⊢
   cases hc:qa9 o.op with
   | true=>
    simp only[hc,if_true] at h ⊢
    obtain⟨h1,h2,h⟩:=h
    rcases h with⟨r0,h3,h4⟩|⟨_,h3,_⟩|h3
    ·exact⟨r0,σ,⟨h1,h2,h3,rfl⟩,qj5 hl rest _ _ h4⟩
    ·rw[hl] at h3;cases h3
    ·have h3:=Qm6 h3;rw[hl] at h3;cases h3
   | false=>
    simp only[hc,Bool.false_eq_true,if_false] at h ⊢
    obtain⟨h1,h2,h3,h4⟩:=h
    exact⟨_,_,⟨h1,h2,h3,rfl,rfl⟩,qj5 hl rest _ _ h4⟩
  | some jb=>
   obtain⟨j,b⟩:=jb
   rw[hg] at h
   simp only at h ⊢
   by_cases ha:qcy o.op=true
   ·rw[if_pos ha] at h
    obtain⟨h1,h2,h3,h4,h5,h6⟩:=h
    exact⟨_,_,⟨h1,by rw[if_pos ha];exact⟨h2,h3,h4,h5,rfl,rfl⟩⟩,qj5 hl rest _ _ h6⟩
   simp only[if_neg ha] at h ⊢
   cases hc:qa9 o.op with
   | true=>
    simp only[hc,if_true] at h ⊢
    obtain⟨h1,h2,h3,h4,r0,h5,h6⟩:=h
    exact⟨_,σ,⟨h1,h2,h3,h4,rfl,r0,rfl,h5⟩,qj5 hl rest _ _ h6⟩
   | false=>
    simp only[hc,Bool.false_eq_true,if_false] at h ⊢
    obtain⟨h1,h2,h3,h4,h5,h6⟩:=h
    exact⟨_,_,⟨h1,h2,h3,h4,rfl,_,rfl,fun ht=>⟨h5 ht,rfl⟩⟩,qj5 hl rest _ _ h6⟩
def qv3 (P:Program) (Gl:qbd) (n:Nat) (all:Array Oper) (o:Oper) (env:Env) (σ:Sto) (K:Env→Sto→Prop):Prop:=
 (∃v σ',qnt P Gl n all o env σ v σ'∧K (putE env o.dst v) σ')∨(qb7 n o.dst=true∧o.guard=none∧qd0 Gl env true o.op∧qa9 o.op=true∧qdj P Gl env σ o.op (fun r σ'=>K (putE env o.dst r) σ'))
theorem Qj1 (hh:Qkz all=false) {K:Env→Sto→Prop} {o:Oper} {env:Env} {σ:Sto} (h:qas P Gl n all true [o] env σ K):qv3 P Gl n all o env σ K:=by
 simp only[qas] at h
 unfold qv3
 cases hg:o.guard with
 | none=>
  rw[hg] at h
  simp only at h
  cases hc:qa9 o.op with
  | true=>
   simp only[hc,if_true] at h
   obtain⟨h1,h2,h⟩:=h
   rcases h with⟨r0,h3,h4⟩|⟨_,_,h3⟩|h3
   ·exact .inl ⟨r0,σ,by simp only[qnt,hg,hc,if_true];exact⟨h1,h2,h3,trivial⟩,h4⟩
   ·exact .inr ⟨h1,rfl,h2,rfl,h3⟩
   ·rw[hh] at h3;cases h3
  | false=>
   simp only[hc,Bool.false_eq_true,if_false] at h
   obtain⟨h1,h2,h3,h4⟩:=h
   exact .inl ⟨opV P Gl σ env o.op,opS P Gl σ env o.op,by simp only[qnt,hg,hc,Bool.false_eq_true,if_false];exact⟨h1,h2,h3,trivial,trivial⟩,h4⟩
 | some jb=>
  obtain⟨j,b⟩:=jb
  rw[hg] at h
  simp only at h
  by_cases ha:qcy o.op=true
  ·rw[if_pos ha] at h
   obtain⟨h1,h2,h3,h4,h5,h6⟩:=h
   exact .inl ⟨.iff true (opV P Gl σ env o.op),opS P Gl σ env o.op,by simp only[qnt,hg,if_pos ha];exact⟨h1,h2,h3,h4,h5,trivial,trivial⟩,h6⟩
  simp only[if_neg ha] at h
  cases hc:qa9 o.op with
  | true=>
   simp only[hc,if_true] at h
   obtain⟨h1,h2,h3,h4,r0,h5,h6⟩:=h
   exact .inl ⟨_,σ,by simp only[qnt,hg,if_neg ha,hc,if_true];exact⟨h1,h2,h3,h4,trivial,r0,rfl,h5⟩,h6⟩
  | false=>
   simp only[hc,Bool.false_eq_true,if_false] at h
   obtain⟨h1,h2,h3,h4,h5,h6⟩:=h
   exact .inl ⟨_,σ,by simp only[qnt,hg,if_neg ha,hc,Bool.false_eq_true,if_false];exact⟨h1,h2,h3,h4,trivial,_,rfl,fun ht=>⟨h5 ht,rfl⟩⟩,h6⟩
theorem q8r {K:Env→Sto→Prop} {o:Oper} {env:Env} {σ:Sto} (h:qas P Gl n all false [o] env σ K):qv3 P Gl n all o env σ K:=by
 simp only[qas] at h
 unfold qv3
 cases hg:o.guard with
 | none=>
  rw[hg] at h
  simp only at h
  cases hc:qa9 o.op with
  | true=>
   simp only[hc,if_true,Bool.false_eq_true,if_false] at h
   obtain⟨h1,h2,h3⟩:=h
   exact .inr ⟨h1,rfl,h2,rfl,h3⟩
  | false=>
   simp only[hc,Bool.false_eq_true,if_false] at h
   obtain⟨h1,h2,h3,h4⟩:=h
   exact .inl ⟨opV P Gl σ env o.op,opS P Gl σ env o.op,by simp only[qnt,hg,hc,Bool.false_eq_true,if_false];exact⟨h1,h2,h3,trivial,trivial⟩,h4⟩
 | some jb=>
  obtain⟨j,b⟩:=jb
  rw[hg] at h
  simp only at h
  by_cases ha:qcy o.op=true
  ·rw[if_pos ha] at h
   obtain⟨h1,h2,h3,h4,h5,h6⟩:=h
   exact .inl ⟨.iff true (opV P Gl σ env o.op),opS P Gl σ env o.op,by simp only[qnt,hg,if_pos ha];exact⟨h1,h2,h3,h4,h5,trivial,trivial⟩,h6⟩
  simp only[if_neg ha] at h
  cases hc:qa9 o.op with
  | true=>
   simp only[hc,if_true] at h
   obtain⟨h1,h2,h3,h4,r0,h5,h6⟩:=h
   exact .inl ⟨_,σ,by simp only[qnt,hg,if_neg ha,hc,if_true];exact⟨h1,h2,h3,h4,trivial,r0,rfl,h5⟩,h6⟩
  | false=>
   simp only[hc,Bool.false_eq_true,if_false] at h
   obtain⟨h1,h2,h3,h4,h5,h6⟩:=h
   exact .inl ⟨_,σ,by simp only[qnt,hg,if_neg ha,hc,Bool.false_eq_true,if_false];exact⟨h1,h2,h3,h4,trivial,_,rfl,fun ht=>⟨h5 ht,rfl⟩⟩,h6⟩
theorem qf6 (hh:Qkz all=false) {K:Env→Sto→Prop} {y:Oper}:∀(l:List Oper) (env:Env) (σ:Sto),qas P Gl n all true (l++[y]) env σ K→qlw P Gl n all l env σ (fun e s=>qv3 P Gl n all y e s K)
 | [],_,_,h=>Qj1 hh h
 | o::rest,env,σ,h=>by
  simp only[List.cons_append,qas] at h
  simp only[qlw,qnt]
  cases hg:o.guard with
  | none=>
   rw[hg] at h
   simp only at h ⊢
   cases hc:qa9 o.op with
   | true=>
    simp only[hc,if_true] at h ⊢
    obtain⟨h1,h2,h⟩:=h
    rcases h with⟨r0,h3,h4⟩|⟨h3,_⟩|h3
    ·exact⟨r0,σ,⟨h1,h2,h3,rfl⟩,qf6 hh rest _ _ h4⟩
    ·simp at h3
    ·rw[hh] at h3;cases h3
   | false=>
    simp only[hc,Bool.false_eq_true,if_false] at h ⊢
    obtain⟨h1,h2,h3,h4⟩:=h
    exact⟨_,_,⟨h1,h2,h3,rfl,rfl⟩,qf6 hh rest _ _ h4⟩
  | some jb=>
   obtain⟨j,b⟩:=jb
   rw[hg] at h
   simp only at h ⊢
   by_cases ha:qcy o.op=true
   ·rw[if_pos ha] at h
    obtain⟨h1,h2,h3,h4,h5,h6⟩:=h
    exact⟨_,_,⟨h1,by rw[if_pos ha];exact⟨h2,h3,h4,h5,rfl,rfl⟩⟩,qf6 hh rest _ _ h6⟩
   simp only[if_neg ha] at h ⊢
   cases hc:qa9 o.op with
   | true=>
    simp only[hc,if_true] at h ⊢
    obtain⟨h1,h2,h3,h4,r0,h5,h6⟩:=h
    exact⟨_,σ,⟨h1,h2,h3,h4,rfl,r0,rfl,h5⟩,qf6 hh rest _ _ h6⟩
   | false=>
    simp only[hc,Bool.false_eq_true,if_false] at h ⊢
    obtain⟨h1,h2,h3,h4,h5,h6⟩:=h
    exact⟨_,_,⟨h1,h2,h3,h4,rfl,_,rfl,fun ht=>⟨h5 ht,rfl⟩⟩,qf6 hh rest _ _ h6⟩
theorem q0f {o:Oper} {j:Nat} {b:Bool} (hg:o.guard=some (j,b)) (h:qv2 (qkq all o) env env'):qbb all env j=qbb all env' j:=by
 unfold qbb
 cases hd:(all[j]?).bind (·.dst) with
 | none=>rfl
 | some d=>exact h d (by simp[qkq,hg,hd])
theorem qrw {o:Oper} {v:AV} (h:qv2 (qkq all o) env env') (hs:qnt P Gl n all o env σ v σ'):qnt P Gl n all o env' σ v σ':=by
 have hsee:Qk1 env env' o.op.operands.toList:=Qq2 fun t ht=>h t (by simp[qkq,ht])
 obtain⟨e1,e2,e3⟩:=Qrc (P:=P) (Gl:=Gl) (σ:=σ) hsee
 obtain⟨hd,hs⟩:=hs
 refine⟨hd,?_⟩
 cases hg:o.guard with
 | none=>
  rw[hg] at hs
  simp only at hs ⊢
  rw[qu9 hsee] at hs
  refine⟨hs.1,?_⟩
  have h2:=hs.2
  cases hc:qa9 o.op with
  | true=>
   simp only[hc,if_true] at h2 ⊢
   exact⟨fun s hx=>by rw[←qvp hsee];exact h2.1 s hx,h2.2⟩
  | false=>
   simp only[hc,Bool.false_eq_true,if_false] at h2 ⊢
   rw[←e1,←e2,←e3];exact h2
 | some jb=>
  obtain⟨j,b⟩:=jb
  rw[hg] at hs
  simp only at hs ⊢
  by_cases ha:qcy o.op=true
  ·rw[if_pos ha] at hs ⊢
   rw[←q0f hg h,←qu9 hsee,←e1,←e2,←e3];exact hs
  rw[if_neg ha] at hs ⊢
  rw[←q0f hg h,←qu9 hsee]
  obtain⟨h1,h2,h3,h4,h5⟩:=hs
  refine⟨h1,h2,h3,h4,?_⟩
  cases hc:qa9 o.op with
  | true=>
   simp only[hc,if_true] at h5 ⊢
   obtain⟨r0,q1,q2⟩:=h5
   exact⟨r0,q1,fun ht s hx=>by rw[←qvp hsee];exact q2 ht s hx⟩
  | false=>
   simp only[hc,Bool.false_eq_true,if_false] at h5 ⊢
   rw[←e1,←e2];exact h5
theorem qhl {d:Option Tmp} {v:AV} {t:Tmp} (h:d≠some t):qem (putE env d v) t=qem env t:=by
 cases d with
 | none=>rfl
 | some d=>simp only[putE,qem];rw[if_neg fun e=>h (by rw[e])]
def still (o:Oper):Bool:=(o.guard.isSome&&!qcy o.op)||qbp o.op
theorem qm4 {op:Op} (h:qbp op=true):qcy op=false:=by
 cases op<;>first|rfl|(simp[qbp] at h;done)
theorem qru {o:Oper} (h:still o=true):qcy o.op=false:=by
 unfold still at h
 cases ha:qcy o.op with
 | false=>rfl
 | true=>
  rw[ha] at h
  simp at h
  rw[qm4 h] at ha;cases ha
theorem qj6 {o:Oper} {v:AV} (h:still o=true) (hs:qnt P Gl n all o env σ v σ'):σ'=σ:=by
 obtain⟨_,hs⟩:=hs
 cases hg:o.guard with
 | none=>
  rw[hg] at hs
  simp only[still,hg,Option.isSome_none,Bool.false_and,Bool.false_or] at h
  have h2:=hs.2
  cases hc:qa9 o.op with
  | true=>simp only[hc,if_true] at h2;exact h2.2
  | false=>simp only[hc,Bool.false_eq_true,if_false] at h2;rw[h2.2.2];exact qhh h
 | some jb=>
  rw[hg] at hs
  simp only at hs
  rw[if_neg (by rw[qru h];simp)] at hs
  exact hs.2.2.2.1
theorem Qlc {o:Oper} {v:AV} {s:Sto} (h:still o=true) (hx:Ext σ s) (hs:qnt P Gl n all o env σ v σ'):qnt P Gl n all o env s v s:=by
 obtain⟨hd,hs⟩:=hs
 refine⟨hd,?_⟩
 cases hg:o.guard with
 | none=>
  rw[hg] at hs
  simp only[still,hg,Option.isSome_none,Bool.false_and,Bool.false_or] at h
  refine⟨hs.1,?_⟩
  have h2:=hs.2
  cases hc:qa9 o.op with
  | true=>
   simp only[hc,if_true] at h2 ⊢
   exact⟨fun s' hx'=>h2.1 s' (hx.trans hx'),trivial⟩
  | false=>
   simp only[hc,Bool.false_eq_true,if_false] at h2 ⊢
   obtain⟨q1,q2⟩:=Qpv hx h h2.1
   exact⟨q1,by rw[q2];exact h2.2.1,(qhh h).symm⟩
 | some jb=>
  obtain⟨j,b⟩:=jb
  rw[hg] at hs
  simp only at hs ⊢
  have hna:¬qcy o.op=true:=by rw[qru h];simp
  rw[if_neg hna] at hs ⊢
  obtain⟨h1,h2,h3,h4,h5⟩:=hs
  refine⟨h1,h2,h3,trivial,?_⟩
  cases hc:qa9 o.op with
  | true=>
   simp only[hc,if_true] at h5 ⊢
   obtain⟨r0,q1,q2⟩:=h5
   exact⟨r0,q1,fun ht s' hx'=>q2 ht s' (hx.trans hx')⟩
  | false=>
   simp only[hc,Bool.false_eq_true,if_false] at h5 ⊢
   obtain⟨r0,q1,q2⟩:=h5
   exact⟨r0,q1,fun ht=>by
    obtain⟨p1,p2⟩:=q2 ht
    obtain⟨q3,q4⟩:=Qpv hx h1 p1
    exact⟨q3,by rw[q4];exact p2⟩⟩
theorem qw4 {o:Oper} {v:AV} (h:qjl o.op=true) (hs:qnt P Gl n all o env σ v σ'):σ'=σ∧∀s,qnt P Gl n all o env s v s:=by
 obtain⟨hq,hnc⟩:=qll h
 have hst:still o=true:=by simp[still,hq]
 refine⟨qj6 hst hs,fun s=>?_⟩
 obtain⟨e1,e2⟩:=Qlz (P:=P) (Gl:=Gl) (env:=env) h σ s
 obtain⟨hd,hs⟩:=hs
 refine⟨hd,?_⟩
 cases hg:o.guard with
 | none=>
  rw[hg] at hs
  simp only[hnc,Bool.false_eq_true,if_false] at hs ⊢
  rw[e1,e2,qhh hq]
  exact⟨hs.1,hs.2.1,hs.2.2.1,rfl⟩
 | some jb=>
  obtain⟨j,b⟩:=jb
  rw[hg] at hs
  simp only[qm4 hq,hnc,Bool.false_eq_true,if_false] at hs ⊢
  obtain⟨h1,h2,h3,h4,r0,q1,q2⟩:=hs
  exact⟨h1,h2,h3,trivial,r0,q1,fun ht=>by rw[e1,e2];exact q2 ht⟩
def Qwq (o:Oper):Bool:=qcy o.op
theorem Qld {o:Oper} {v:AV} (h:Qwq o=true) (hs:qnt P Gl n all o env σ v σ'):Ext σ σ':=by
 have h:qcy o.op=true:=h
 obtain⟨hd,hs⟩:=hs
 cases hg:o.guard with
 | none=>
  rw[hg] at hs
  have hc:qa9 o.op=false:=by
   generalize o.op=op at *
   cases op<;>first|rfl|(simp[qcy] at h;done)
  simp only[hc,Bool.false_eq_true,if_false] at hs
  rw[hs.2.2.2]
  exact Qpw h hs.2.1
 | some jb=>
  rw[hg] at hs
  simp only at hs
  rw[if_pos h] at hs
  rw[hs.2.2.2.2.2]
  exact Qpw h hs.2.2.2.1
def q1v (all:Array Oper) (x y:Oper):Bool:=
 (match x.dst,y.dst with|some a,some b=>a !=b|_,_=>true) &&
 (match x.dst with|some a=>!(qkq all y).contains a|none=>true) &&
 (match y.dst with|some b=>!(qkq all x).contains b|none=>true) &&
 ((still x&&still y)||qjl x.op||qjl y.op||(still x&&Qwq y))
theorem q0a {x y:Oper} (h:q1v all x y=true):(∀a,x.dst=some a→y.dst≠some a)∧(∀a,x.dst=some a→a∉qkq all y)∧(∀b,y.dst=some b→b∉qkq all x) ∧
  ((still x=true∧still y=true)∨qjl x.op=true∨qjl y.op=true∨(still x=true∧Qwq y=true)):=by
 simp only[q1v,Bool.and_eq_true,Bool.or_eq_true] at h
 obtain⟨⟨⟨h1,h2⟩,h3⟩,h4⟩:=h
 refine⟨fun a ha hb=>?_,fun a ha=>?_,fun b hb=>?_,?_⟩
 ·rw[ha,hb] at h1;simp at h1
 ·rw[ha] at h2;simpa using h2
 ·rw[hb] at h3;simpa using h3
 ·rcases h4 with((h4|h4)|h4)|h4
  ·exact .inl h4
  ·exact .inr (.inl h4)
  ·exact .inr (.inr (.inl h4))
  ·exact .inr (.inr (.inr h4))
theorem qw9 {o:Oper} {d:Option Tmp} {v:AV} (h:∀a,d=some a→a∉qkq all o):qv2 (qkq all o) (putE env d v) env:=by
 intro t ht
 exact qhl fun e=>h t e ht
theorem qv2.symm {l:List Tmp} (h:qv2 l env env'):qv2 l env' env:=fun t ht=>(h t ht).symm
theorem Qfw {x y:Oper} (h:q1v all x y=true) {v1 v2:AV} {σ1 σ2:Sto} (h1:qnt P Gl n all x env σ v1 σ1) (h2:qnt P Gl n all y (putE env x.dst v1) σ1 v2 σ2) :
  ∃σy,qnt P Gl n all y env σ v2 σy∧qnt P Gl n all x (putE env y.dst v2) σy v1 σ2:=by
 obtain⟨_,q2,q3,q4⟩:=q0a h
 have h2':=qrw (qw9 (env:=env) (v:=v1) q2) h2
 have qgy:∀{s s':Sto},qnt P Gl n all x env s v1 s'→qnt P Gl n all x (putE env y.dst v2) s v1 s':=fun hh=>qrw (qw9 (env:=env) (v:=v2) q3).symm hh
 rcases q4 with⟨hx,hy⟩|hx|hy|⟨hx,hy⟩
 ·have e1:=qj6 hx h1
  have e2:=qj6 hy h2
  subst e1;subst e2
  exact⟨_,h2',qgy h1⟩
 ·obtain⟨e1,g1⟩:=qw4 hx h1
  subst e1
  exact⟨_,h2',qgy (g1 _)⟩
 ·obtain⟨e2,g2⟩:=qw4 hy h2'
  subst e2
  exact⟨_,g2 _,qgy h1⟩
 ·have e1:=qj6 hx h1
  subst e1
  exact⟨_,h2',qgy (Qlc hx (Qld hy h2') h1)⟩
def q2h (env env':Env):Prop:=∀t,qem env t=qem env' t
theorem q2h.put (h:q2h env env') (d:Option Tmp) (v:AV):q2h (putE env d v) (putE env' d v):=by
 intro t
 cases d with
 | none=>exact h t
 | some d=>
  simp only[putE,qem]
  split
  ·rfl
  ·exact h t
theorem q2h.swap {d e:Option Tmp} (hne:∀a,d=some a→e≠some a) (v u:AV):q2h (putE (putE env d v) e u) (putE (putE env e u) d v):=by
 intro t
 by_cases h1:e=some t
 ·have h2:d≠some t:=fun h=>hne t h h1
  rw[qhl h2,h1]
  simp[putE,qem]
 ·rw[qhl h1]
  by_cases h2:d=some t
  ·rw[h2];simp[putE,qem]
  ·rw[qhl h2,qhl h2,qhl h1]
def KX (K:Env→Sto→Prop) (env:Env) (σ:Sto):Prop:=∃env0,q2h env0 env∧K env0 σ
theorem KX.ext {K:Env→Sto→Prop} (h:q2h env env') (hk:KX K env σ):KX K env' σ:=by
 obtain⟨e0,h0,hk⟩:=hk
 exact⟨e0,fun t=>(h0 t).trans (h t),hk⟩
theorem q21 {K:Env→Sto→Prop}:∀(l:List Oper) {env env':Env} {σ:Sto},q2h env env'→qlw P Gl n all l env σ (KX K)→qlw P Gl n all l env' σ (KX K)
 | [],_,_,_,h,hk=>KX.ext h hk
 | o::rest,_,_,_,h,hk=>by
  obtain⟨v,σ',h1,h2⟩:=hk
  exact⟨v,σ',qrw (fun t _=>h t) h1,q21 rest (h.put _ _) h2⟩
theorem qlf {K:Env→Sto→Prop} {y:Oper} {post:List Oper}:∀(pre:List Oper) {env:Env} {σ:Sto},(∀x∈pre,q1v all x y=true)→qlw P Gl n all (pre++y::post) env σ (KX K)→qlw P Gl n all (y::(pre++post)) env σ (KX K)
 | [],_,_,_,h=>h
 | x::pre,env,σ,hi,h=>by
  obtain⟨v1,σ1,h1,h2⟩:=h
  obtain⟨v2,σ2,h3,h4⟩:=qlf pre (fun z hz=>hi z (by simp[hz])) h2
  have hxy:=hi x (by simp)
  obtain⟨σy,h5,h6⟩:=Qfw hxy h1 h3
  exact⟨v2,σy,h5,v1,σ2,h6,q21 _ (q2h.swap (q0a hxy).1 _ _) h4⟩
end Go.AM


namespace Go.AM
variable {P:Program} {Gl:qbd} {env:Env} {σ σ':Sto} {n:Nat} {all:Array Oper} {w:World} {I:Im} {μ:Pos} {a:Act} {Q:Exit→Act→World→Prop}
theorem qnv {o:Oper} {i:Nat} {v:AV} {Kw:Act→World→Prop} (hR:Rel w I μ σ) (hG:qg5 Gl w I) (hE:qbz n w I μ σ env a) (hi:all[i]? = some o) (hs:qnt P Gl n all o env σ v σ')
  (hn:∀a' w' I' μ',Rel w' I' μ' σ'→qg5 Gl w' I'→qbz n w' I' μ' σ' (putE env o.dst v) a'→qcn σ.length w I μ σ w' I' μ' σ'→Kw a' w'):wpOp P all Q i Kw a w:=by
 unfold wpOp
 rw[hi]
 simp only
 obtain⟨hd,hs⟩:=hs
 cases hgd:o.guard with
 | none=>
  rw[hgd] at hs
  obtain⟨hg,h⟩:=hs
  rw[if_pos (qhv hgd _)]
  left
  cases hc:qa9 o.op with
  | true=>
   simp only[hc,if_true] at h
   obtain⟨h1,rfl⟩:=h
   refine Oper.wp_of_call (qgi hR hG hE hg (h1 σ' (Ext.refl _))) fun u w' ⟨r,s',I',μ',q1,q2,q3,q4⟩=>?_
   obtain⟨rfl,rfl⟩:=q4
   exact hn _ _ _ _ q1 (hG.keep q2) ((hE.keep q2).putE hd q3) q2
  | false=>
   simp only[hc,Bool.false_eq_true,if_false] at h
   obtain⟨h1,rfl,rfl⟩:=h
   refine Oper.wp_of_goes (qh0 hR hG hE o hc hg h1) fun u w' I' μ' q1 q2 q3=>?_
   exact hn _ _ _ _ q1 (hG.keep q2) ((hE.keep q2).putE hd q3) q2
 | some jb=>
  obtain⟨j,b⟩:=jb
  rw[hgd] at hs
  simp only at hs
  by_cases ha:qcy o.op=true
  ·rw[if_pos ha] at hs
   obtain⟨hsl,ht,hg,h1,rfl,rfl⟩:=hs
   have hw:=qfe hE (all:=all) hgd hsl
   have hc:qa9 o.op=false:=by
    generalize o.op=op at *
    cases op<;>first|rfl|(simp[qcy] at ha;done)
   rw[hw,ht,if_pos rfl]
   left
   refine Oper.wp_of_goes (qh0 hR hG hE o hc hg h1) fun u w' I' μ' q1 q2 q3=>?_
   exact hn _ _ _ _ q1 (hG.keep q2) ((hE.keep q2).putE hd (.iff true _ _ (fun _=>q3) (fun h=>by cases h))) q2
  rw[if_neg ha] at hs
  obtain⟨hqt,hsl,hg,rfl,h⟩:=hs
  have hw:=qfe hE (all:=all) hgd hsl
  cases ht:qaq (qbb all env j) b with
  | false=>
   rw[hw,ht,if_neg (by simp)]
   rw[ht] at h
   have:∃x,v=.iff false x:=by
    cases hc:qa9 o.op with
    | true=>simp only[hc,if_true] at h;obtain⟨r0,h,_⟩:=h;exact⟨r0,h⟩
    | false=>simp only[hc,Bool.false_eq_true,if_false] at h;obtain⟨r0,h,_⟩:=h;exact⟨r0,h⟩
   obtain⟨x,rfl⟩:=this
   exact hn _ _ _ _ hR hG (hE.putE hd (.iff false _ x (fun h=>by cases h) (fun _=>rfl))) (qcn.refl _ _ _ _ (Nat.le_refl _))
  | true=>
   rw[hw,ht,if_pos rfl]
   left
   rw[ht] at h hg
   cases hc:qa9 o.op with
   | true=>
    simp only[hc,if_true] at h
    obtain⟨r0,rfl,h2⟩:=h
    refine Oper.wp_of_call (qgi hR hG hE hg (h2 trivial _ (Ext.refl _))) fun u w' ⟨r,s',I',μ',q1,q2,q3,q4⟩=>?_
    obtain⟨rfl,rfl⟩:=q4
    exact hn _ _ _ _ q1 (hG.keep q2) ((hE.keep q2).putE hd (.iff true _ _ (fun _=>q3) (fun h=>by cases h))) q2
   | false=>
    simp only[hc,Bool.false_eq_true,if_false] at h
    obtain⟨r0,rfl,h2⟩:=h
    obtain⟨h3,rfl⟩:=h2 trivial
    have hgo:=qh0 hR hG hE o hc hg h3
    rw[qhh hqt] at hgo
    refine Oper.wp_of_goes hgo fun u w' I' μ' q1 q2 q3=>?_
    exact hn _ _ _ _ q1 (hG.keep q2) ((hE.keep q2).putE hd (.iff true _ _ (fun _=>q3) (fun h=>by cases h))) q2
theorem qqq {acc:List Nat} {j:Nat}:∀(l:List Edge) (s:Nat),(qvw acc l s).testBit j=true→s.testBit j=true∨∃e∈l,Region.binds .any e=true∧(e.on=j∨(acc.getD e.on 0).testBit j=true)
 | [],s,h=>.inl h
 | e::l,s,h=>by
  rcases qqq l _ h with h1|⟨e',h1,h2⟩
  ·simp only at h1
   by_cases hb:Region.binds .any e=true
   ·rw[if_pos hb] at h1
    simp only[Nat.testBit_or,Bool.or_eq_true,Nat.testBit_two_pow,decide_eq_true_eq] at h1
    rcases h1 with(h1|h1)|h1
    ·exact .inl h1
    ·exact .inr ⟨e,by simp,hb,.inl h1⟩
    ·exact .inr ⟨e,by simp,hb,.inr h1⟩
   ·rw[if_neg hb] at h1;exact .inl h1
  ·exact .inr ⟨e',by simp[h1],h2⟩
def q2i (all:Array Oper) (D:Nat→Prop) (i:Nat):Prop:=∀o,all[i]? = some o→∀e∈o.after.toList,Region.binds .any e=true→D e.on
theorem qvv {D:Nat→Prop} (hD:∀i,D i→q2i all D i):∀(rest:List Oper) (acc:List Nat),(∀k,rest[k]? = all[acc.length+k]?) →
  (∀i<acc.length,∀j,(acc.getD i 0).testBit j=true→q2i all D i→D j) →
  ∀i<(Qnu rest acc).length,∀j,((Qnu rest acc).getD i 0).testBit j=true→q2i all D i→D j
 | [],acc,_,h=>h
 | o::r,acc,hk,h=>by
  have h0:all[acc.length]? = some o:=by have:=hk 0;simpa using this.symm
  refine qvv hD r _ (fun k=>?_) (fun i hi j hj hp=>?_)
  ·have:=hk (k+1)
   simp only[List.getElem?_cons_succ] at this
   rw[this,List.length_append,List.length_singleton]
   congr 1;omega
  ·rcases Nat.lt_or_ge i acc.length with hlt|hge
   ·have e:(acc++[qvw acc o.after.toList 0]).getD i 0=acc.getD i 0:=by
     simp[List.getD_eq_getElem?_getD,List.getElem?_append_left hlt]
    rw[e] at hj
    exact h i hlt j hj hp
   ·have hi':i=acc.length:=by simp only[List.length_append,List.length_singleton] at hi;omega
    subst hi'
    have e:(acc++[qvw acc o.after.toList 0]).getD acc.length 0=qvw acc o.after.toList 0:=by
     simp[List.getD_eq_getElem?_getD]
    rw[e] at hj
    rcases qqq _ _ hj with h1|⟨e',h1,h2,h3⟩
    ·simp at h1
    ·have hde:=hp o h0 e' h1 h2
     rcases h3 with rfl|h3
     ·exact hde
     ·have hlt:e'.on<acc.length:=by
       rcases Nat.lt_or_ge e'.on acc.length with h'|h'
       ·exact h'
       ·rw[List.getD_eq_getElem?_getD,List.getElem?_eq_none h'] at h3;simp at h3
      exact h _ hlt j h3 (hD _ hde)
theorem qlv:∀(rest:List Oper) (acc:List Nat),(Qnu rest acc).length=acc.length+rest.length
 | [],acc=>rfl
 | o::r,acc=>by rw[Qnu,qlv r];simp;omega
def qgg (ops:Array Oper):Bool:=
 ((List.range ops.size).all fun i=>(List.range i).all fun j=>((Qnu ops.toList []).getD i 0).testBit j||(match ops[j]?,ops[i]? with|some x,some y=>q1v ops x y|_,_=>true)) &&
 ((List.range ops.size).all fun i=>match ops[i]? with|some o=>o.after.toList.all fun e=>!Region.binds .any e||decide (e.on<i)|none=>true)
theorem q8q (h:qgg all=true):Qkz all=false:=by
 cases hh:Qkz all with
 | false=>rfl
 | true=>
  exfalso
  simp only[Qkz,Bool.and_eq_true,List.any_eq_true,List.mem_range] at hh
  obtain⟨_,i,hi,j,hj,h1,h2⟩:=hh
  simp only[qgg,Bool.and_eq_true,List.all_eq_true,List.mem_range] at h
  have h3:=h.1 i hi j hj
  cases hx:all[j]? with
  | none=>rw[hx] at h1;simp at h1
  | some x=>
   cases hy:all[i]? with
   | none=>rw[hx,hy] at h1;simp at h1
   | some y=>
    rw[hx,hy] at h1 h3
    simp only[Bool.and_eq_true] at h1
    obtain⟨⟨⟨a1,a2⟩,a3⟩,a4⟩:=h1
    simp only[Bool.not_eq_true'] at h2
    rw[h2] at h3
    simp only[Bool.false_or] at h3
    have gx:x.guard=none:=by cases hg:x.guard<;>simp_all
    have qx:qbp x.op=false:=by cases hq:qbp x.op with|false=>rfl|true=>rw[qm4 hq] at a1;cases a1
    have qy:qbp y.op=false:=by cases hq:qbp y.op with|false=>rfl|true=>rw[qm4 hq] at a2;cases a2
    have nx:qjl x.op=false:=by cases hq:qjl x.op with|false=>rfl|true=>rw[(qll hq).1] at qx;cases qx
    have ny:qjl y.op=false:=by cases hq:qjl y.op with|false=>rfl|true=>rw[(qll hq).1] at qy;cases qy
    simp[q1v,still,gx,qx,nx,ny] at h3
theorem qqo (h:qgg all=true) {i j:Nat} (hij:j<i) {x y:Oper} (hx:all[j]? = some x) (hy:all[i]? = some y) {D:Nat→Prop} (hD:∀i,D i→q2i all D i) (hp:q2i all D i) (hj:¬D j):q1v all x y=true:=by
 simp only[qgg,Bool.and_eq_true,List.all_eq_true,List.mem_range] at h
 have hi:i<all.size:=by
  rcases Nat.lt_or_ge i all.size with h'|h'
  ·exact h'
  ·rw[Array.getElem?_eq_none h'] at hy;cases hy
 have:=h.1 i hi j hij
 rw[hx,hy] at this
 rcases Bool.or_eq_true _ _▸this with h1|h1
 ·refine absurd (qvv hD all.toList [] (fun k=>by simp) (fun i hi=>absurd hi (Nat.not_lt_zero _)) i ?_ j h1 hp) hj
  rw[qlv];simpa using hi
 ·exact h1
theorem qqn (h:qgg all=true) {i:Nat} {o:Oper} (ho:all[i]? = some o):∀e∈o.after.toList,Region.binds .any e=true→e.on<i:=by
 simp only[qgg,Bool.and_eq_true,List.all_eq_true,List.mem_range] at h
 have hi:i<all.size:=by
  rcases Nat.lt_or_ge i all.size with h'|h'
  ·exact h'
  ·rw[Array.getElem?_eq_none h'] at ho;cases ho
 intro e he hb
 have:=h.2 i hi
 rw[ho] at this
 simp only[List.all_eq_true] at this
 have:=this e he
 simpa[hb] using this
def qwd (all:Array Oper) (listed:Array Bool):List Nat:=(List.range all.size).filter fun i=>!listed.getD i true
def qd2 (all:Array Oper) (l:List Nat):List Oper:=l.filterMap (all[·]?)
theorem qhz {N i:Nat} (h:i<N):List.range N=List.range i++i::(List.range (N-i-1)).map (i+1+·):=by
 have e:N=i+(1+(N-i-1)):=by omega
 conv=>lhs;rw[e,List.range_add]
 congr 1
 rw[Nat.add_comm 1,List.range_succ_eq_map]
 simp[Function.comp_def,Nat.add_comm,Nat.add_left_comm]
theorem qn0 {listed:Array Bool} (hs:listed.size=all.size) {i:Nat} (hi:i<all.size) (hl:listed.getD i true=false) :
  ∃pre post,qwd all listed=pre++i::post∧qwd all (listed.setIfInBounds i true)=pre++post∧∀j∈pre,j<i∧listed.getD j true=false:=by
 have hne:∀j,j≠i→(listed.setIfInBounds i true).getD j true=listed.getD j true:=fun j hj=>by
  rw[Array.getD_eq_getD_getElem?,Array.getD_eq_getD_getElem?,Array.getElem?_setIfInBounds_ne (fun e=>hj e.symm)]
 have heq:(listed.setIfInBounds i true).getD i true=true:=by
  rw[Array.getD_eq_getD_getElem?,Array.getElem?_setIfInBounds_self_of_lt (by omega)];rfl
 refine⟨(List.range i).filter fun j=>!listed.getD j true,((List.range (all.size-i-1)).map (i+1+·)).filter fun j=>!listed.getD j true,?_,?_,?_⟩
 ·unfold qwd
  rw[qhz hi,List.filter_append,List.filter_cons,if_pos (by rw[hl];rfl)]
 ·unfold qwd
  rw[qhz hi,List.filter_append,List.filter_cons,if_neg (by rw[heq];simp)]
  congr 1
  ·exact List.filter_congr fun j hj=>by rw[hne j (by have:=List.mem_range.1 hj;omega)]
  ·exact List.filter_congr fun j hj=>by
    obtain⟨k,_,rfl⟩:=List.mem_map.1 hj
    rw[hne _ (by omega)]
 ·intro j hj
  have:=List.mem_filter.1 hj
  exact⟨List.mem_range.1 this.1,by simpa using this.2⟩
theorem qee {listed:Array Bool} {i:Nat}:i∈Region.ready .any all listed↔i<all.size∧listed.getD i true=false∧∃o,all[i]? = some o∧∀e∈o.after.toList,Region.binds .any e=true→listed.getD e.on false=true:=by
 unfold Region.ready
 rw[List.mem_filter,List.mem_range]
 constructor
 ·rintro⟨h1,h2⟩
  simp only[Bool.and_eq_true,Bool.not_eq_true'] at h2
  refine⟨h1,h2.1,?_⟩
  have h3:=h2.2
  rw[Array.getElem?_eq_getElem h1] at h3 ⊢
  refine⟨_,rfl,fun e he hb=>?_⟩
  simp only[Option.map_some,Option.getD_some,Array.all_eq_true'] at h3
  have:=h3 e (by simpa using he)
  simpa[hb] using this
 ·rintro⟨h1,h2,o,h3,h4⟩
  refine⟨h1,?_⟩
  simp only[Bool.and_eq_true,Bool.not_eq_true']
  refine⟨h2,?_⟩
  rw[h3]
  simp only[Option.map_some,Option.getD_some,Array.all_eq_true']
  intro e he
  cases hb:Region.binds .any e with
  | false=>rfl
  | true=>simp[h4 e (by simpa using he) hb]
theorem qju {listed:Array Bool} {i:Nat} (h:i<listed.size):listed.getD i false=listed.getD i true:=by
 simp[h]
theorem Qkp (hck:qgg all=true) {m:Nat} {K:Env→Sto→Prop}:∀(fuel:Nat) (listed:Array Bool) (env:Env) (σ:Sto) (w:World) (I:Im) (μ:Pos) (a:Act),
  listed.size=all.size→(∀i,listed.getD i false=true→q2i all (fun j=>listed.getD j false=true) i)→(qwd all listed).length≤fuel →
  qlw P Gl n all (qd2 all (qwd all listed)) env σ (KX K)→Rel w I μ σ→qg5 Gl w I→qbz n w I μ σ env a→m≤σ.length →
  (∀env' σ' w' I' μ' a',K env' σ'→Rel w' I' μ' σ'→qg5 Gl w' I'→qbz n w' I' μ' σ' env' a'→qcn m w I μ σ w' I' μ' σ'→Q .normal a' w')→wpAny P .any all Q fuel listed a w:=by
 intro fuel
 induction fuel with
 | zero=>
  intro listed env σ w I μ a hsz hD hlen hst hR hG hE hm hq
  have hnil:qwd all listed=[]:=List.eq_nil_of_length_eq_zero (by omega)
  refine⟨?_,?_⟩
  ·rw[List.eq_nil_iff_forall_not_mem]
   intro i hi
   obtain⟨h1,h2,_⟩:=qee.1 hi
   have:i∈qwd all listed:=List.mem_filter.2 ⟨List.mem_range.2 h1,by rw[h2];rfl⟩
   rw[hnil] at this;cases this
  ·rw[hnil] at hst
   obtain⟨e0,h0,hk⟩:=hst
   exact hq e0 σ w I μ a hk hR hG ⟨hE.defers,hE.size,fun t=>by rw[h0 t];exact hE.slot t⟩ (qcn.refl _ _ _ _ hm)
 | succ fuel ih=>
  intro listed env σ w I μ a hsz hD hlen hst hR hG hE hm hq
  refine⟨fun hrd=>?_,fun i hi=>?_⟩
  ·have hall:∀i,i<all.size→listed.getD i true=true:=by
    intro i
    induction i using Nat.strongRecOn with
    | _ i ihi=>
     intro hi
     cases hl:listed.getD i true with
     | true=>rfl
     | false=>
      exfalso
      have:i∈Region.ready .any all listed:=qee.2 ⟨hi,hl,all[i],Array.getElem?_eq_getElem hi,fun e he hb=>by
       have hlt:=qqn hck (Array.getElem?_eq_getElem hi) e he hb
       rw[qju (by omega)]
       exact ihi _ hlt (by omega)⟩
      rw[hrd] at this;cases this
   have hnil:qwd all listed=[]:=by
    rw[List.eq_nil_iff_forall_not_mem]
    intro i hi
    have:=List.mem_filter.1 hi
    have h2:=hall i (List.mem_range.1 this.1)
    rw[h2] at this
    simp at this
   rw[hnil] at hst
   obtain⟨e0,h0,hk⟩:=hst
   exact hq e0 σ w I μ a hk hR hG ⟨hE.defers,hE.size,fun t=>by rw[h0 t];exact hE.slot t⟩ (qcn.refl _ _ _ _ hm)
  ·obtain⟨h1,h2,o,h3,h4⟩:=qee.1 hi
   obtain⟨pre,post,e1,e2,e3⟩:=qn0 hsz h1 h2
   have hpre:∀x∈qd2 all pre,q1v all x o=true:=fun x hx=>by
    obtain⟨j,hj,hjx⟩:=List.mem_filterMap.1 hx
    obtain⟨hlt,hnl⟩:=e3 j hj
    refine qqo hck hlt hjx h3 (D:=fun j=>listed.getD j false=true) hD (fun o' ho'=>by rw[h3] at ho';cases ho';exact h4) ?_
    intro hd
    have hd:listed.getD j false=true:=hd
    rw[qju (by omega),hnl] at hd
    cases hd
   rw[e1] at hst
   have e4:qd2 all (pre++i::post)=qd2 all pre++o::qd2 all post:=by
    simp[qd2,h3]
   rw[e4] at hst
   obtain⟨v,σ',s1,s2⟩:=qlf _ hpre hst
   have hset:∀j,(listed.setIfInBounds i true).getD j false=true↔(listed.getD j false=true∨j=i):=fun j=>by
    by_cases e:j=i
    ·subst e
     rw[Array.getD_eq_getD_getElem?,Array.getElem?_setIfInBounds_self_of_lt (by omega)];simp
    ·rw[Array.getD_eq_getD_getElem?,Array.getElem?_setIfInBounds_ne (fun h=>e h.symm),←Array.getD_eq_getD_getElem?]
     simp[e]
   refine qnv hR hG hE h3 s1 fun a' w' I' μ' q1 q2 q3 q4=>?_
   refine ih (listed.setIfInBounds i true) _ σ' w' I' μ' a' (by simpa using hsz) (fun j hj o' ho' e he hb=>?_) ?_ ?_ q1 q2 q3 (Nat.le_trans hm q4.len) fun env' σ2 w2 I2 μ2 a2 k1 k2 k3 k4 k5=>hq env' σ2 w2 I2 μ2 a2 k1 k2 k3 k4 ((q4.mono hm).trans k5)
   ·refine(hset e.on).2 ?_
    rcases(hset j).1 hj with hj|rfl
    ·exact .inl (hD j hj o' ho' e he hb)
    ·rw[h3] at ho';cases ho';exact .inl (h4 e he hb)
   ·rw[e1] at hlen;rw[e2];simp at hlen ⊢;omega
   ·rw[e2]
    have e5:qd2 all (pre++post)=qd2 all pre++qd2 all post:=by simp[qd2]
    rw[e5];exact s2
theorem Qeu (hP:P.follows .mixedOrders=true) (hl:q5n all=false) (hck:qgg all=true) {m id:Nat} {K:Env→Sto→Prop} (h:qas P Gl n all true all.toList env σ K) (hR:Rel w I μ σ) (hG:qg5 Gl w I) (hE:qbz n w I μ σ env a) (hm:m≤σ.length)
  (hq:∀env' σ' w' I' μ' a',K env' σ'→Rel w' I' μ' σ'→qg5 Gl w' I'→qbz n w' I' μ' σ' env' a'→qcn m w I μ σ w' I' μ' σ'→Q .normal a' w'):(Code.region id all true).wp P Q a w:=by
 refine wp_region_any hP ?_
 have hs:=qfl.drew w
 have hk:=hs.keep (I:=I) (μ:=μ) (σ:=σ)
 have hfalse:∀(i:Nat) (b:Bool),i<all.size→(Array.replicate all.size false).getD i b=false:=fun i b hi=>by simp[hi]
 have hrem:qwd all (Array.replicate all.size false)=List.range all.size:=by
  unfold qwd
  rw[List.filter_eq_self]
  intro i hi
  rw[hfalse i _ (List.mem_range.1 hi)];rfl
 have hops:qd2 all (List.range all.size)=all.toList:=by
  apply List.ext_getElem?
  intro k
  have hall:∀N,N≤all.size→∀k,(qd2 all (List.range N))[k]? = if k<N then all[k]? else none:=by
   intro N
   induction N with
   | zero=>intro _ k;simp[qd2]
   | succ N ih=>
    intro hN k
    have hlen:(qd2 all (List.range N)).length=N:=by
     have h1:=ih (by omega)
     rcases Nat.lt_trichotomy (qd2 all (List.range N)).length N with hlt|he|hgt
     ·have:=h1 (qd2 all (List.range N)).length
      rw[if_pos hlt,List.getElem?_eq_none (Nat.le_refl _),Array.getElem?_eq_getElem (by omega)] at this
      cases this
     ·exact he
     ·have:=h1 N
      rw[if_neg (Nat.lt_irrefl _),List.getElem?_eq_getElem hgt] at this
      cases this
    have e:qd2 all (List.range (N+1))=qd2 all (List.range N)++[all[N]]:=by
     rw[List.range_succ]
     simp[qd2,Array.getElem?_eq_getElem (show N<all.size by omega)]
    rw[e]
    rcases Nat.lt_trichotomy k N with hlt|he|hgt
    ·rw[List.getElem?_append_left (by omega),ih (by omega),if_pos hlt,if_pos (by omega)]
    ·subst he
     rw[List.getElem?_append_right (by omega),hlen,if_pos (by omega)]
     simp[Array.getElem?_eq_getElem (show k<all.size by omega)]
    ·rw[List.getElem?_eq_none (by simp[hlen];omega),if_neg (by omega)]
  rw[hall _ (Nat.le_refl _)]
  rcases Nat.lt_or_ge k all.size with h1|h1
  ·rw[if_pos h1];simp
  ·rw[if_neg (by omega)];simp;omega
 have hmono:∀(l:List Oper) (env:Env) (σ:Sto),qlw P Gl n all l env σ K→qlw P Gl n all l env σ (KX K):=by
  intro l
  induction l with
  | nil=>intro env σ h;exact⟨env,fun _=>rfl,h⟩
  | cons o l ih=>intro env σ h;obtain⟨v,σ',h1,h2⟩:=h;exact⟨v,σ',h1,ih _ _ h2⟩
 refine Qkp (P:=P) (Gl:=Gl) (n:=n) hck all.size _ env σ _ I μ a (by simp) (fun i hi=>?_) (by rw[hrem];simp) ?_ (hs.rel hR) (hG.keep hk) (hE.keep hk) hm fun env' σ' w' I' μ' a' k1 k2 k3 k4 k5=>hq env' σ' w' I' μ' a' k1 k2 k3 k4 ((hk.mono hm).trans k5)
 ·exfalso
  rcases Nat.lt_or_ge i all.size with h1|h1
  ·rw[hfalse i _ h1] at hi;cases hi
  ·simp[Nat.not_lt.2 h1] at hi
 ·rw[hrem,hops]
  exact hmono _ _ _ (qj5 hl _ _ _ h)
end Go.AM


set_option linter.unusedVariables false
namespace Go.AM
variable {P:Program} {Gl:qbd} {env:Env} {σ σ':Sto} {n:Nat} {all:Array Oper} {w:World} {I:Im} {μ:Pos} {a:Act} {Q:Exit→Act→World→Prop}
def Qlo (k:Nat) (listed:Array Bool):List Nat:=(List.range k).filter fun i=>!listed.getD i true
theorem qic {listed:Array Bool} {i j:Nat} {b:Bool} (h:i<listed.size):(listed.setIfInBounds i true).getD j b=if j=i then true else listed.getD j b:=by
 by_cases e:j=i
 ·subst e
  rw[if_pos rfl,Array.getD_eq_getD_getElem?,Array.getElem?_setIfInBounds_self_of_lt h];rfl
 ·rw[if_neg e,Array.getD_eq_getD_getElem?,Array.getElem?_setIfInBounds_ne (fun h=>e h.symm),←Array.getD_eq_getD_getElem?]
theorem Qdo {k i:Nat} {listed:Array Bool} (hs:k≤listed.size) (hi:i<k) (hl:listed.getD i true=false) :
  ∃pre post,Qlo k listed=pre++i::post∧Qlo k (listed.setIfInBounds i true)=pre++post∧∀j∈pre,j<i∧listed.getD j true=false:=by
 refine⟨(List.range i).filter fun j=>!listed.getD j true,((List.range (k-i-1)).map (i+1+·)).filter fun j=>!listed.getD j true,?_,?_,?_⟩
 ·unfold Qlo
  rw[qhz hi,List.filter_append,List.filter_cons,if_pos (by rw[hl];rfl)]
 ·unfold Qlo
  rw[qhz hi,List.filter_append,List.filter_cons,if_neg (by rw[qic (by omega),if_pos rfl];simp)]
  congr 1
  ·exact List.filter_congr fun j hj=>by rw[qic (by omega),if_neg (by have:=List.mem_range.1 hj;omega)]
  ·exact List.filter_congr fun j hj=>by
    obtain⟨k,_,rfl⟩:=List.mem_map.1 hj
    rw[qic (by omega),if_neg (by omega)]
 ·intro j hj
  have:=List.mem_filter.1 hj
  exact⟨List.mem_range.1 this.1,by simpa using this.2⟩
theorem qw3 {K K':Env→Sto→Prop}:∀{l:List Oper} {env:Env} {σ:Sto},qlw P Gl n all l env σ K→(∀e s,K e s→K' e s)→qlw P Gl n all l env σ K'
 | [],_,_,h,hk=>hk _ _ h
 | o::r,_,_,h,hk=>by
  obtain⟨v,σ',h1,h2⟩:=h
  exact⟨v,σ',h1,qw3 h2 hk⟩
theorem qqp {o:Oper} {i:Nat} {Kw:Act→World→Prop} {K:Env→Sto→Prop} (hR:Rel w I μ σ) (hG:qg5 Gl w I) (hE:qbz n w I μ σ env a) (hi:all[i]? = some o) (hs:qv3 P Gl n all o env σ K)
  (hn:∀env' σ' a' w' I' μ',K env' σ'→Rel w' I' μ' σ'→qg5 Gl w' I'→qbz n w' I' μ' σ' env' a'→qcn σ.length w I μ σ w' I' μ' σ'→Kw a' w'):wpOp P all Q i Kw a w:=by
 rcases hs with⟨v,σ',h1,h2⟩|⟨hd,hgd,hg,hc,h1⟩
 ·exact qnv hR hG hE hi h1 fun a' w' I' μ' q1 q2 q3 q4=>hn _ _ _ _ _ _ h2 q1 q2 q3 q4
 ·unfold wpOp
  rw[hi]
  simp only
  rw[if_pos (qhv hgd _)]
  left
  refine Oper.wp_of_call (qgi hR hG hE hg h1) fun u w' ⟨r,s',I',μ',q1,q2,q3,q4⟩=>?_
  exact hn _ _ _ _ _ _ q4 q1 (hG.keep q2) ((hE.keep q2).putE hd q3) q2
theorem Qnz {listed:Array Bool} (hall:∀i,i<all.size→listed.getD i true=true) (h:Q .normal a w):∀fuel,wpAny P .any all Q fuel listed a w:=fun fuel=>by
 have hrd:Region.ready .any all listed=[]:=by
  rw[List.eq_nil_iff_forall_not_mem]
  intro i hi
  obtain⟨h1,h2,_⟩:=qee.1 hi
  rw[hall i h1] at h2;cases h2
 cases fuel with
 | zero=>exact⟨hrd,h⟩
 | succ f=>exact⟨fun _=>h,fun i hi=>by rw[hrd] at hi;cases hi⟩
theorem Qny {N:Nat} (hck:qgg all=true) (hN:all.size=N+1) {o:Oper} (ho:all[N]? = some o) (hb:∀j,j<N→((Qnu all.toList []).getD N 0).testBit j=true) {m:Nat} {K:Env→Sto→Prop}:∀(fuel:Nat) (listed:Array Bool) (env:Env) (σ:Sto) (w:World) (I:Im) (μ:Pos) (a:Act),
  listed.size=all.size→(∀i,listed.getD i false=true→q2i all (fun j=>listed.getD j false=true) i)→(qwd all listed).length≤fuel→listed.getD N true=false →
  qlw P Gl n all (qd2 all (Qlo N listed)) env σ (KX (fun e s=>qv3 P Gl n all o e s K))→Rel w I μ σ→qg5 Gl w I→qbz n w I μ σ env a→m≤σ.length →
  (∀env' σ' w' I' μ' a',K env' σ'→Rel w' I' μ' σ'→qg5 Gl w' I'→qbz n w' I' μ' σ' env' a'→qcn m w I μ σ w' I' μ' σ'→Q .normal a' w')→wpAny P .any all Q fuel listed a w:=by
 intro fuel
 induction fuel with
 | zero=>
  intro listed env σ w I μ a hsz hD hlen hlast
  have:N∈qwd all listed:=List.mem_filter.2 ⟨List.mem_range.2 (by omega),by rw[hlast];rfl⟩
  rw[List.eq_nil_of_length_eq_zero (show(qwd all listed).length=0 by omega)] at this;cases this
 | succ fuel ih=>
  intro listed env σ w I μ a hsz hD hlen hlast hst hR hG hE hm hq
  refine⟨fun hrd=>?_,fun i hi=>?_⟩
  ·exfalso
   have hall:∀i,i<all.size→listed.getD i true=true:=by
    intro i
    induction i using Nat.strongRecOn with
    | _ i ihi=>
     intro hi
     cases hl:listed.getD i true with
     | true=>rfl
     | false=>
      exfalso
      have:i∈Region.ready .any all listed:=qee.2 ⟨hi,hl,all[i],Array.getElem?_eq_getElem hi,fun e he hb=>by
       have hlt:=qqn hck (Array.getElem?_eq_getElem hi) e he hb
       rw[qju (by omega)]
       exact ihi _ hlt (by omega)⟩
      rw[hrd] at this;cases this
   rw[hall N (by omega)] at hlast;cases hlast
  ·obtain⟨h1,h2,o',h3,h4⟩:=qee.1 hi
   have hset:∀j,(listed.setIfInBounds i true).getD j false=true↔(listed.getD j false=true∨j=i):=fun j=>by
    rw[qic (by omega)]
    by_cases e:j=i
    ·simp[e]
    ·simp[e]
   have hp:q2i all (fun j=>listed.getD j false=true) i:=fun o2 ho2=>by rw[h3] at ho2;cases ho2;exact h4
   rcases Nat.lt_or_ge i N with hik|hik
   ·have hclos:∀j,(listed.setIfInBounds i true).getD j false=true→q2i all (fun j=>(listed.setIfInBounds i true).getD j false=true) j:=fun j hj o' ho' e he hb=>by
     refine(hset e.on).2 ?_
     rcases(hset j).1 hj with hj|rfl
     ·exact .inl (hD j hj o' ho' e he hb)
     ·rw[h3] at ho';cases ho';exact .inl (h4 e he hb)
    have hfuel:(qwd all (listed.setIfInBounds i true)).length≤fuel:=by
     obtain⟨pre,post,e1,e2,_⟩:=qn0 hsz h1 h2
     rw[e1] at hlen;rw[e2];simp at hlen ⊢;omega
    obtain⟨pre,post,e1,e2,e3⟩:=Qdo (by omega) hik h2
    have hpre:∀x∈qd2 all pre,q1v all x o'=true:=fun x hx=>by
     obtain⟨j,hj,hjx⟩:=List.mem_filterMap.1 hx
     obtain⟨hlt,hnl⟩:=e3 j hj
     refine qqo hck hlt hjx h3 (D:=fun j=>listed.getD j false=true) hD hp ?_
     intro hd
     have hd:listed.getD j false=true:=hd
     rw[qju (by omega),hnl] at hd
     cases hd
    rw[e1] at hst
    have e4:qd2 all (pre++i::post)=qd2 all pre++o'::qd2 all post:=by simp[qd2,h3]
    rw[e4] at hst
    obtain⟨v,σ',s1,s2⟩:=qlf _ hpre hst
    refine qnv hR hG hE h3 s1 fun a' w' I' μ' q1 q2 q3 q4=>?_
    refine ih (listed.setIfInBounds i true) _ σ' w' I' μ' a' (by simpa using hsz) hclos hfuel (by rw[qic (by omega),if_neg (by omega)];exact hlast) ?_ q1 q2 q3 (Nat.le_trans hm q4.len) fun env' σ2 w2 I2 μ2 a2 k1 k2 k3 k4 k5=>hq env' σ2 w2 I2 μ2 a2 k1 k2 k3 k4 ((q4.mono hm).trans k5)
    rw[e2]
    have e5:qd2 all (pre++post)=qd2 all pre++qd2 all post:=by simp[qd2]
    rw[e5];exact s2
   ·have hiN:i=N:=by omega
    subst hiN
    rw[ho] at h3;cases h3
    have hdone:∀j,j<i→listed.getD j false=true:=fun j hj=>
     qvv hD all.toList [] (fun k=>by simp) (fun i hi=>absurd hi (Nat.not_lt_zero _)) i (by rw[qlv];simp;omega) j (hb j hj) hp
    have hnil:Qlo i listed=[]:=by
     rw[List.eq_nil_iff_forall_not_mem]
     intro j hj
     have hj:=List.mem_filter.1 hj
     have hlt:=List.mem_range.1 hj.1
     have:=hdone j hlt
     rw[qju (by omega)] at this
     rw[this] at hj
     simp at hj
    rw[hnil] at hst
    obtain⟨e0,h0,hst⟩:=hst
    refine qqp hR hG (show qbz n w I μ σ e0 a from⟨hE.defers,hE.size,fun t=>by rw[h0 t];exact hE.slot t⟩) ho hst fun env' σ' a' w' I' μ' k0 k1 k2 k3 k4=>?_
    refine Qnz (fun j hj=>?_) (hq env' σ' w' I' μ' a' k0 k1 k2 k3 (k4.mono hm)) fuel
    rw[qic (by omega)]
    by_cases e:j=i
    ·rw[if_pos e]
    ·rw[if_neg e,←qju (by omega)]
     exact hdone j (by omega)
theorem Qgg {k:Nat} (hk:k≤all.size):qd2 all (Qlo k (Array.replicate all.size false))=all.toList.take k:=by
 have h1:Qlo k (Array.replicate all.size false)=List.range k:=by
  unfold Qlo
  rw[List.filter_eq_self]
  intro i hi
  have:=List.mem_range.1 hi
  simp[show i<all.size by omega]
 rw[h1]
 have gen:∀N,N≤all.size→qd2 all (List.range N)=all.toList.take N:=by
  intro N
  induction N with
  | zero=>intro _;rfl
  | succ N ih=>
   intro hN
   have e:qd2 all (List.range (N+1))=qd2 all (List.range N)++[all[N]]:=by
    rw[List.range_succ]
    simp[qd2,Array.getElem?_eq_getElem (show N<all.size by omega)]
   rw[e,ih (by omega),List.take_add_one]
   simp[show N<all.size by omega]
 exact gen k hk
def qgm (n m:Nat) (env:Env) (σ:Sto) (env':Env) (σ':Sto):Prop:=
 ∀w I μ a,Rel w I μ σ→qbz n w I μ σ env a→m≤σ.length→∃I' μ',Rel w I' μ' σ'∧qbz n w I' μ' σ' env' a∧qcn m w I μ σ w I' μ' σ'
theorem qgm.refl (n m:Nat) (env:Env) (σ:Sto):qgm n m env σ env σ:=fun _ I μ _ h1 h2 h3=>⟨I,μ,h1,h2,qcn.refl _ _ _ _ h3⟩
def Qqm (P:Program) (Gl:qbd) (n m:Nat) (all:Array Oper) (env:Env) (σ:Sto) (K:Env→Sto→Prop):Prop:=
 ∃J:Array Bool→Env→Sto→Prop,(∃e0 s0,qgm n m env σ e0 s0∧J (Array.replicate all.size false) e0 s0) ∧
  (∀listed e s,J listed e s→listed.size=all.size→Region.ready .any all listed=[]→K e s) ∧
  ∀(listed:Array Bool) e s i,J listed e s→listed.size=all.size→i∈Region.ready .any all listed→∀o,all[i]? = some o→qas P Gl n all false [o] e s fun e' s'=>∃e2 s2,qgm n m e' s' e2 s2∧J (listed.setIfInBounds i true) e2 s2
theorem Qeo {J:Array Bool→Env→Sto→Prop} {m:Nat} {K:Env→Sto→Prop}
  (h1:∀listed e s,J listed e s→listed.size=all.size→Region.ready .any all listed=[]→K e s)
  (h2:∀(listed:Array Bool) e s i,J listed e s→listed.size=all.size→i∈Region.ready .any all listed→∀o,all[i]? = some o→qas P Gl n all false [o] e s fun e' s'=>∃e2 s2,qgm n m e' s' e2 s2∧J (listed.setIfInBounds i true) e2 s2) :
  ∀(fuel:Nat) (listed:Array Bool) (env:Env) (σ:Sto) (w:World) (I:Im) (μ:Pos) (a:Act),listed.size=all.size→(qwd all listed).length≤fuel→J listed env σ→Rel w I μ σ→qg5 Gl w I→qbz n w I μ σ env a→m≤σ.length →
  (∀env' σ' w' I' μ' a',K env' σ'→Rel w' I' μ' σ'→qg5 Gl w' I'→qbz n w' I' μ' σ' env' a'→qcn m w I μ σ w' I' μ' σ'→Q .normal a' w')→wpAny P .any all Q fuel listed a w:=by
 intro fuel
 induction fuel with
 | zero=>
  intro listed env σ w I μ a hsz hlen hJ hR hG hE hm hq
  have hnil:qwd all listed=[]:=List.eq_nil_of_length_eq_zero (by omega)
  have hrd:Region.ready .any all listed=[]:=by
   rw[List.eq_nil_iff_forall_not_mem]
   intro i hi
   obtain⟨g1,g2,_⟩:=qee.1 hi
   have:i∈qwd all listed:=List.mem_filter.2 ⟨List.mem_range.2 g1,by rw[g2];rfl⟩
   rw[hnil] at this;cases this
  exact⟨hrd,hq env σ w I μ a (h1 listed env σ hJ hsz hrd) hR hG hE (qcn.refl _ _ _ _ hm)⟩
 | succ fuel ih=>
  intro listed env σ w I μ a hsz hlen hJ hR hG hE hm hq
  refine⟨fun hrd=>hq env σ w I μ a (h1 listed env σ hJ hsz hrd) hR hG hE (qcn.refl _ _ _ _ hm),fun i hi=>?_⟩
  obtain⟨g1,g2,o,g3,g4⟩:=qee.1 hi
  have hfuel:(qwd all (listed.setIfInBounds i true)).length≤fuel:=by
   obtain⟨pre,post,e1,e2,_⟩:=qn0 hsz g1 g2
   rw[e1] at hlen;rw[e2];simp at hlen ⊢;omega
  refine qqp hR hG hE g3 (q8r (h2 listed env σ i hJ hsz hi o g3)) fun env' σ' a' w' I' μ' k0 k1 k2 k3 k4=>?_
  obtain⟨e2,s2,hw,hJ2⟩:=k0
  obtain⟨I2,μ2,q1,q2,q3⟩:=hw w' I' μ' a' k1 k3 (Nat.le_trans hm k4.len)
  exact ih _ e2 s2 w' I2 μ2 a' (by simpa using hsz) hfuel hJ2 q1 (k2.keep q3) q2 q3.len fun env3 σ3 w3 I3 μ3 a3 r1 r2 r3 r4 r5=>hq env3 σ3 w3 I3 μ3 a3 r1 r2 r3 r4 ((k4.mono hm).trans (q3.trans r5))
def q0g (P:Program) (Gl:qbd) (n m:Nat) (all:Array Oper) (env:Env) (σ:Sto) (K:Env→Sto→Prop):Prop:=
 qgg all=true∨Qqm P Gl n m all env σ K

theorem q8o (hP:P.follows .mixedOrders=true) {m id:Nat} {K:Env→Sto→Prop} (hck:q0g P Gl n m all env σ K) (h:qas P Gl n all true all.toList env σ K) (hR:Rel w I μ σ) (hG:qg5 Gl w I) (hE:qbz n w I μ σ env a) (hm:m≤σ.length)
  (hq:∀env' σ' w' I' μ' a',K env' σ'→Rel w' I' μ' σ'→qg5 Gl w' I'→qbz n w' I' μ' σ' env' a'→qcn m w I μ σ w' I' μ' σ'→Q .normal a' w'):(Code.region id all true).wp P Q a w:=by
 rcases hck with hck|⟨J,⟨e0,s0,hw0,hJ⟩,h1,h2⟩
 ·cases hl:q5n all with
  | false=>exact Qeu hP hl hck h hR hG hE hm hq
  | true=>
   simp only[q5n,Bool.and_eq_true,decide_eq_true_eq,List.all_eq_true,List.mem_range] at hl
   obtain⟨N,hN⟩:∃N,all.size=N+1:=⟨all.size-1,by omega⟩
   refine wp_region_any hP ?_
   have hs:=qfl.drew w
   have hk2:=hs.keep (I:=I) (μ:=μ) (σ:=σ)
   have ho:all[N]? = some all[N]:=Array.getElem?_eq_getElem (by omega)
   have hsplit:all.toList=all.toList.take N++[all[N]]:=by
    have h1:all.toList.take (N+1)=all.toList:=List.take_of_length_le (by simp;omega)
    have h2:all.toList.take (N+1)=all.toList.take N++[all[N]]:=by
     rw[List.take_add_one];simp[show N<all.size by omega]
    exact h1.symm.trans h2
   rw[hsplit] at h
   refine Qny hck hN ho (fun j hj=>?_) all.size _ env σ _ I μ a (by simp) (fun i hi=>?_) ?_ ?_ ?_ (hs.rel hR) (hG.keep hk2) (hE.keep hk2) hm fun env' σ' w' I' μ' a' k1 k2 k3 k4 k5=>hq env' σ' w' I' μ' a' k1 k2 k3 k4 ((hk2.mono hm).trans k5)
   ·have:=hl.2 j (by omega)
    rwa [hN] at this
   ·exfalso
    rcases Nat.lt_or_ge i all.size with h1|h1
    ·simp[h1] at hi
    ·simp[Nat.not_lt.2 h1] at hi
   ·unfold qwd
    exact Nat.le_trans (List.length_filter_le _ _) (by simp)
   ·simp[show N<all.size by omega]
   ·rw[Qgg (by omega)]
    exact qw3 (qf6 (q8q hck) _ _ _ h) fun e s h=>⟨e,fun _=>rfl,h⟩
 ·refine wp_region_any hP ?_
  have hs:=qfl.drew w
  have hk2:=hs.keep (I:=I) (μ:=μ) (σ:=σ)
  have hE2:=hE.keep hk2
  obtain⟨I0,μ0,a1,a2,a3⟩:=hw0 _ I μ a (hs.rel hR) hE2 hm
  refine Qeo (m:=m) h1 h2 all.size _ e0 s0 _ I0 μ0 a (by simp) ?_ hJ a1 ((hG.keep hk2).keep a3) a2 a3.len fun env' σ' w' I' μ' a' k1 k2 k3 k4 k5=>hq env' σ' w' I' μ' a' k1 k2 k3 k4 ((hk2.mono hm).trans (a3.trans k5))
  unfold qwd
  exact Nat.le_trans (List.length_filter_le _ _) (by simp)
theorem qq {op:Op} (h:qbp op=true):qbp op=true:=h
theorem dq {P:Program} {Gl:qbd} {n m:Nat} {all:Array Oper} {env:Env} {σ:Sto} {K:Env→Sto→Prop} (h:qgg all=true):q0g P Gl n m all env σ K:=Or.inl h
theorem Qxi:type_of% (aI @List.length_take.{0} (aI @List.length_drop.{0} (aI @List.length_map.{0,0} (aI @List.length_append.{0} @List.length_cons.{0})))):=aI @List.length_take.{0} (aI @List.length_drop.{0} (aI @List.length_map.{0,0} (aI @List.length_append.{0} @List.length_cons.{0})))
theorem sdp {p:Prop} (h:p:=by first|omega|(simp only[Qxi];omega)|(refine qq ?_;rfl)|(refine dq ?_;kernel_rfl)|(intros;simp_all;done)|fail):p:=h
end Go.AM


namespace Go.AM
inductive qgl where
 | normal
 | exit (id:Nat)
 | ret
def Qk0:Exit→qgl→Prop
 | .normal,.normal=>True
 | .exit i,.exit j=>i=j
 | .ret,.ret=>True
 | _,_=>False
def q9a (n m:Nat) (w:World) (I:Im) (μ:Pos) (σ:Sto) (K:qgl→Env→Sto→Prop) (Gl:qbd):Exit→Act→World→Prop:=fun e a' w'=>
 ∃ae env' σ' I' μ',Qk0 e ae∧Rel w' I' μ' σ'∧qg5 Gl w' I'∧qbz n w' I' μ' σ' env' a'∧qcn m w I μ σ w' I' μ' σ'∧K ae env' σ'
def AWp (P:Program) (Gl:qbd) (n m:Nat) (c:Code) (env:Env) (σ:Sto) (K:qgl→Env→Sto→Prop):Prop:=
 ∀w I μ a,Rel w I μ σ→qg5 Gl w I→qbz n w I μ σ env a→m≤σ.length→c.wp P (q9a n m w I μ σ K Gl) a w
def ql2 (K:qgl→Env→Sto→Prop) (next:Env→Sto→Prop):qgl→Env→Sto→Prop
 | .normal,env,σ=>next env σ
 | e,env,σ=>K e env σ
def qfs (id:Nat) (K:qgl→Env→Sto→Prop):qgl→Env→Sto→Prop
 | .exit i,env,σ=>if i=id then K .normal env σ else K (.exit i) env σ
 | e,env,σ=>K e env σ
def Qql (n m:Nat) (step:Env→Sto→(qgl→Env→Sto→Prop)→Prop) (env:Env) (σ:Sto) (K:qgl→Env→Sto→Prop):Prop:=
 ∃(Inv:Env→Sto→Prop) (ν:Env→Sto→Nat),(∃e s,qgm n m env σ e s∧Inv e s) ∧
  ∀e s,Inv e s→step e s (ql2 K fun e' s'=>∃e2 s2,qgm n m e' s' e2 s2∧Inv e2 s2∧ν e2 s2<ν e s)
def Qv0:AV→Bool
 | .d (.bool b)=>b
 | .anyb=>true
 | _=>false
def Qu2:AV→Bool
 | .d (.bool b)=>!b
 | .anyb=>true
 | _=>false
def AV.isBoolq:AV→Bool
 | .d (.bool _)=>true
 | .anyb=>true
 | _=>false
def q6p (u:AV) (X Y:Prop):Prop:=u.isBoolq=true∧(Qv0 u=true→X)∧(Qu2 u=true→Y)
def evC (P:Program) (Gl:qbd) (n m:Nat):Code→Env→Sto→(qgl→Env→Sto→Prop)→Prop
 | .skip,env,σ,K=>K .normal env σ
 | .region _ ops draw,env,σ,K=>(draw=true→q0g P Gl n m ops env σ (K .normal))∧qas P Gl n ops draw ops.toList env σ (K .normal)
 | .seq x y,env,σ,K=>evC P Gl n m x env σ (ql2 K fun env' σ'=>evC P Gl n m y env' σ' K)
 | .cond c x y,env,σ,K=>evG Gl env c=true∧q6p (evU Gl env c) (evC P Gl n m x env σ K) (evC P Gl n m y env σ K)
 | .block id c,env,σ,K=>evC P Gl n m c env σ (qfs id K)
 | .loop c,env,σ,K=>Qql n m (evC P Gl n m c) env σ K
 | .exit id,env,σ,K=>K (.exit id) env σ
 | .ret,env,σ,K=>K .ret env σ
 | .scope c,env,σ,K=>evC P Gl n m c env σ K
 | .label _,env,σ,K=>K .normal env σ
 | _,_,_,_=>False
variable {P:Program} {Gl:qbd} {n m:Nat} {env:Env} {σ:Sto} {K:qgl→Env→Sto→Prop}
theorem q9a.trans {w w1:World} {I I1:Im} {μ μ1:Pos} {σ σ1:Sto} (k:qcn m w I μ σ w1 I1 μ1 σ1) {K':qgl→Env→Sto→Prop} (hk:∀e env s,K e env s→K' e env s) {e:Exit} {a':Act} {w':World} (h:q9a n m w1 I1 μ1 σ1 K Gl e a' w'):q9a n m w I μ σ K' Gl e a' w':=by
 obtain⟨ae,env',σ',I',μ',h1,h2,h3,h4,h5,h6⟩:=h
 exact⟨ae,env',σ',I',μ',h1,h2,h3,h4,k.trans h5,hk _ _ _ h6⟩
theorem AWp.mono {c:Code} {K':qgl→Env→Sto→Prop} (h:AWp P Gl n m c env σ K) (hk:∀e env s,K e env s→K' e env s):AWp P Gl n m c env σ K':=
 fun w I μ a h1 h2 h3 h4=>Code.wp_mono (fun _ _ _ q=>q9a.trans (qcn.refl _ _ _ _ h4) hk q) (h w I μ a h1 h2 h3 h4)
theorem AWp.seq {x y:Code} (h:AWp P Gl n m x env σ (ql2 K fun env' σ'=>AWp P Gl n m y env' σ' K)):AWp P Gl n m (.seq x y) env σ K:=by
 intro w I μ a h1 h2 h3 h4
 refine wp_seq (Code.wp_mono (fun e a' w' q=>?_) (h w I μ a h1 h2 h3 h4))
 obtain⟨ae,env',σ',I',μ',q1,q2,q3,q4,q5,q6⟩:=q
 cases e<;>cases ae<;>simp only[Qk0] at q1<;>simp only[Exit.then]
 ·exact Code.wp_mono (fun _ _ _ q=>q9a.trans q5 (fun _ _ _ h=>h) q) (q6 w' I' μ' a' q2 q3 q4 q5.len)
 ·subst q1;exact⟨.exit _,env',σ',I',μ',(rfl:Qk0 (.exit _) (.exit _)),q2,q3,q4,q5,q6⟩
 ·exact⟨.ret,env',σ',I',μ',trivial,q2,q3,q4,q5,q6⟩
theorem AWp.block {id:Nat} {c:Code} (h:AWp P Gl n m c env σ (qfs id K)):AWp P Gl n m (.block id c) env σ K:=by
 intro w I μ a h1 h2 h3 h4
 refine wp_block (Code.wp_mono (fun e a' w' q=>?_) (h w I μ a h1 h2 h3 h4))
 obtain⟨ae,env',σ',I',μ',q1,q2,q3,q4,q5,q6⟩:=q
 cases e<;>cases ae<;>simp only[Qk0] at q1<;>simp only[Exit.inBlock]
 ·exact⟨.normal,env',σ',I',μ',trivial,q2,q3,q4,q5,q6⟩
 ·subst q1
  simp only[qfs] at q6
  split
  ·rename_i he;rw[if_pos he] at q6;exact⟨.normal,env',σ',I',μ',trivial,q2,q3,q4,q5,q6⟩
  ·rename_i he;rw[if_neg he] at q6;exact⟨.exit _,env',σ',I',μ',rfl,q2,q3,q4,q5,q6⟩
 ·exact⟨.ret,env',σ',I',μ',trivial,q2,q3,q4,q5,q6⟩
theorem AWp.weak {c:Code} {env':Env} {σ':Sto} (hw:qgm n m env σ env' σ') (h:AWp P Gl n m c env' σ' K):AWp P Gl n m c env σ K:=by
 intro w I μ a h1 h2 h3 h4
 obtain⟨I',μ',q1,q2,q3⟩:=hw w I μ a h1 h3 h4
 exact Code.wp_mono (fun _ _ _ q=>q9a.trans q3 (fun _ _ _ h=>h) q) (h w I' μ' a q1 (h2.keep q3) q2 q3.len)
theorem qet {T:Nat→Prop} (h:∃k,T k):∃k,T k∧∀j,T j→k≤j:=by
 obtain⟨k,hk⟩:=h
 induction k using Nat.strongRecOn with
 | _ k ih=>
  by_cases hx:∃j,j<k∧T j
  ·obtain⟨j,hj,ht⟩:=hx;exact ih j hj ht
  ·exact⟨k,hk,fun j hj=>Nat.le_of_not_lt fun hlt=>hx ⟨j,hlt,hj⟩⟩
theorem AWp.loop {c:Code} (h:Qql n m (fun e s k=>AWp P Gl n m c e s k) env σ K):AWp P Gl n m (.loop c) env σ K:=by
 intro w I μ a h1 h2 h3 h4
 obtain⟨Inv,ν,⟨e0,s0,hw0,hi0⟩,hstep⟩:=h
 let T:Act→World→Nat→Prop:=fun a' w' k=>∃e s I' μ',ν e s=k∧Inv e s∧Rel w' I' μ' s∧qg5 Gl w' I'∧qbz n w' I' μ' s e a'∧qcn m w I μ σ w' I' μ' s
 let least:Act→World→Nat:=fun a' w'=>open Classical in if h:∃k,T a' w' k then Classical.choose (qet h) else 0
 have least_spec:∀a' w' (h:∃k,T a' w' k),T a' w' (least a' w')∧∀j,T a' w' j→least a' w'≤j:=fun a' w' h=>by
  have:least a' w'=Classical.choose (qet h):=by simp only[least];rw[dif_pos h]
  rw[this];exact Classical.choose_spec (qet h)
 obtain⟨I0,μ0,q1,q2,q3⟩:=hw0 w I μ a h1 h3 h4
 refine wp_loop (fun a' w'=>∃k,T a' w' k) least ⟨ν e0 s0,e0,s0,I0,μ0,rfl,hi0,q1,h2.keep q3,q2,q3⟩ fun a' w' hI=>?_
 obtain⟨⟨e,s,I',μ',hk,hi,r1,r2,r3,r4⟩,hmin⟩:=least_spec a' w' hI
 refine Code.wp_mono (fun x a2 w2 q=>?_) (hstep e s hi w' I' μ' a' r1 r2 r3 r4.len)
 obtain⟨ae,env',σ',I2,μ2,p1,p2,p3,p4,p5,p6⟩:=q
 cases x<;>cases ae<;>simp only[Qk0] at p1<;>simp only[Exit.then]
 ·obtain⟨e2,s2,hw2,hi2,hlt⟩:=p6
  obtain⟨I3,μ3,t1,t2,t3⟩:=hw2 w2 I2 μ2 a2 p2 p4 p5.len
  have hT:T a2 w2 (ν e2 s2):=⟨e2,s2,I3,μ3,rfl,hi2,t1,p3.keep t3,t2,(r4.trans p5).trans t3⟩
  refine⟨⟨_,hT⟩,?_⟩
  have:=(least_spec a2 w2 ⟨_,hT⟩).2 _ hT
  omega
 ·subst p1;exact⟨.exit _,env',σ',I2,μ2,(rfl:Qk0 (.exit _) (.exit _)),p2,p3,p4,r4.trans p5,p6⟩
 ·exact⟨.ret,env',σ',I2,μ2,trivial,p2,p3,p4,r4.trans p5,p6⟩
theorem qg8 {K K':qgl→Env→Sto→Prop} {f g:Env→Sto→Prop} (hk:∀e env s,K e env s→K' e env s) (hf:∀env s,f env s→g env s):∀e env s,ql2 K f e env s→ql2 K' g e env s:=by
 intro e env s h
 cases e<;>first|exact hf _ _ h|exact hk _ _ _ h
theorem qab (hP:P.follows .mixedOrders=true) :
  ∀(c:Code) (env:Env) (σ:Sto) (K:qgl→Env→Sto→Prop),evC P Gl n m c env σ K→AWp P Gl n m c env σ K:=by
 intro c
 induction c with
 | skip=>
  intro env σ K h w I μ a h1 h2 h3 h4
  exact wp_skip ⟨.normal,env,σ,I,μ,trivial,h1,h2,h3,qcn.refl _ _ _ _ h4,h⟩
 | region id ops draw=>
  intro env σ K h
  cases draw with
  | false=>
   intro w I μ a h1 h2 h3 h4
   refine wp_region_list (qdf ops.toList env σ h.2 h1 h2 h3 h4 fun env' σ' w' I' μ' a' k1 k2 k3 k4 k5=>?_)
   exact⟨.normal,env',σ',I',μ',trivial,k2,k3,k4,k5,k1⟩
  | true=>
   intro w I μ a h1 h2 h3 h4
   refine q8o hP (h.1 rfl) h.2 h1 h2 h3 h4 fun env' σ' w' I' μ' a' k1 k2 k3 k4 k5=>?_
   exact⟨.normal,env',σ',I',μ',trivial,k2,k3,k4,k5,k1⟩
 | seq x y ihx ihy=>
  intro env σ K h
  exact AWp.seq (AWp.mono (ihx env σ _ h) (qg8 (fun _ _ _ h=>h) fun env s h=>ihy env s K h))
 | cond c x y ihx ihy=>
  intro env σ K h w I μ a h1 h2 h3 h4
  obtain⟨g1,g2,g3,g4⟩:=h
  have hr:=qd9 h2 h3 g1
  have hb:∃b,a.eval c=.bool b∧(b=true→Qv0 (evU Gl env c)=true)∧(b=false→Qu2 (evU Gl env c)=true):=by
   generalize evU Gl env c=u at *
   generalize a.eval c=v at *
   cases u with
   | d x=>
    cases x with
    | bool b=>cases hr.inv_d;exact⟨b,rfl,fun h=>h,fun h=>by simp[Qu2,h]⟩
    | _=>simp[AV.isBoolq] at g2
   | anyb=>cases hr with|anyb b=>exact⟨b,rfl,fun _=>rfl,fun _=>rfl⟩
   | _=>simp[AV.isBoolq] at g2
  obtain⟨b,hb,hT,hF⟩:=hb
  refine wp_cond_split hb (fun ht=>?_) (fun ht=>?_)
  ·exact ihx env σ K (g3 (hT ht)) w I μ a h1 h2 h3 h4
  ·exact ihy env σ K (g4 (hF ht)) w I μ a h1 h2 h3 h4
 | block id c ih=>
  intro env σ K h
  exact AWp.block (ih env σ _ h)
 | loop c ih=>
  intro env σ K h
  obtain⟨Inv,ν,h1,h2⟩:=h
  exact AWp.loop ⟨Inv,ν,h1,fun e s hi=>ih e s _ (h2 e s hi)⟩
 | exit id=>
  intro env σ K h w I μ a h1 h2 h3 h4
  exact wp_exit ⟨.exit id,env,σ,I,μ,rfl,h1,h2,h3,qcn.refl _ _ _ _ h4,h⟩
 | ret=>
  intro env σ K h w I μ a h1 h2 h3 h4
  exact wp_ret ⟨.ret,env,σ,I,μ,trivial,h1,h2,h3,qcn.refl _ _ _ _ h4,h⟩
 | scope c ih=>
  intro env σ K h w I μ a h1 h2 h3 h4
  refine wp_scope_straight (Code.wp_mono (fun e a' w' q=>?_) (ih env σ K h w I μ a h1 h2 h3 h4))
  obtain⟨ae,env',σ',I',μ',q1,q2,q3,q4,q5,q6⟩:=q
  cases e<;>cases ae<;>simp only[Qk0] at q1
  ·exact⟨.normal,env',σ',I',μ',trivial,q2,q3,q4,q5,q6⟩
  ·subst q1;exact⟨.exit _,env',σ',I',μ',(rfl:Qk0 (.exit _) (.exit _)),q2,q3,q4,q5,q6⟩
  ·exact⟨.ret,env',σ',I',μ',trivial,q2,q3,q4,q5,q6⟩
 | label l=>
  intro env σ K h w I μ a h1 h2 h3 h4
  exact wp_label ⟨.normal,env,σ,I,μ,trivial,h1,h2,h3,qcn.refl _ _ _ _ h4,h⟩
 | _=>intro env σ K h;exact h.elim
end Go.AM


namespace Go.AM
variable {P:Program} {Gl:qbd} {w:World} {I:Im} {μ:Pos} {σ:Sto} {n m:Nat} {env:Env} {a:Act}
def qak:List AV→Nat→Env
 | [],_=>[]
 | v::r,k=>(k,v)::qak r (k+1)
theorem qu7:∀(args:List AV) (k t:Nat),qem (qak args k) t=if k≤t then args.getD (t-k) .undef else .undef
 | [],k,t=>by simp[qak,qem]
 | v::r,k,t=>by
  simp only[qak,qem]
  by_cases e:k=t
  ·subst e;simp
  ·rw[if_neg e,qu7 r (k+1) t]
   by_cases h:k≤t
   ·rw[if_pos h,if_pos (by omega)]
    have:t-k=(t-(k+1))+1:=by omega
    rw[this];rfl
   ·rw[if_neg h,if_neg (by omega)]
def qxb (P:Program) (env:Env) (σ:Sto):ResultVar→Prop
 | .tmp t=>(qem env t).vg=true
 | .cell t ty=>match qbm P ty,tsz P ty with|some g,some k=>Qdy σ g k (qem env t)|_,_=>False
def q0z (P:Program) (env:Env) (σ:Sto):ResultVar→AV
 | .tmp t=>(qem env t).un
 | .cell t ty=>match qbm P ty,tsz P ty with|some g,some k=>ldV σ g k (qem env t)|_,_=>.undef
def qwb (P:Program) (env:Env) (σ:Sto):List ResultVar→Prop
 | []=>True
 | r::rs=>qxb P env σ r∧qwb P env σ rs
def Qpb (P:Program) (env:Env) (σ:Sto):List ResultVar→AV
 | [r]=>q0z P env σ r
 | rs=>.tup (rs.map (q0z P env σ))
def qcz (m:Nat) (r:AV) (s:Sto) (r':AV) (s':Sto):Prop:=
 ∀w I μ v,Rel w I μ s→qbg w I μ s v r→m≤s.length→∃I' μ',Rel w I' μ' s'∧qbg w I' μ' s' v r'∧qcn m w I μ s w I' μ' s'
theorem qcz.refl (m:Nat) (r:AV) (s:Sto):qcz m r s r s:=fun _ I μ _ h1 h2 h3=>⟨I,μ,h1,h2,qcn.refl _ _ _ _ h3⟩
def Qwa (P:Program) (m:Nat) (rs:List ResultVar) (R:AV→Sto→Prop):qgl→Env→Sto→Prop
 | .exit _,_,_=>False
 | _,env,σ=>qwb P env σ rs∧∃r' s',qcz m (Qpb P env σ rs) σ r' s'∧R r' s'
def Qud (tmps:Array Value):ResultVar→Sem Value
 | .tmp t=>pure (tmps.getD t Go.undef)
 | .cell t ty=>do loadVar ty (←asAddr (tmps.getD t Go.undef))
theorem Qll (hR:Rel w I μ σ) (hE:qbz n w I μ σ env a) {r:ResultVar} (ho:qxb P env σ r) :
  ∃v,(Qud a.tmps r).run P w=.ok v w∧qbg w I μ σ v (q0z P env σ r):=by
 cases r with
 | tmp t=>exact⟨_,rfl,Qok (hE.slot t) ho⟩
 | cell t ty=>
  simp only[qxb] at ho
  split at ho
  ·rename_i g k h1 h2
   obtain⟨u,h3,h4⟩:=q5l (P:=P) hR h1 h2 (hE.slot t) ho
   refine⟨u,?_,by simp only[q0z,h1,h2];exact h4⟩
   have hp:∃ad,a.tmps.getD t Go.undef=.pointer (some ad):=by
    have hv:=hE.slot t
    generalize qem env t=p at *
    generalize a.tmps.getD t Go.undef=q at *
    cases p<;>simp only[Qdy] at ho<;>cases hv
    ·rename_i h;obtain⟨_,_,_,e⟩:=h;exact⟨_,e⟩
    ·exact⟨_,rfl⟩
    ·rename_i h;obtain⟨_,_,_,_,e⟩:=h;exact⟨_,e⟩
   obtain⟨ad,e⟩:=hp
   rw[e] at h3
   simp only[Qud,e,asAddr,Sem.run_bind,Sem.run_pure,Result.andThen_ok]
   simpa[Instr.loadAt,Instr.sureAddr] using h3
  ·exact ho.elim
theorem Qaa (hR:Rel w I μ σ) (hE:qbz n w I μ σ env a):∀(rs:List ResultVar),qwb P env σ rs →
  ∃vs:List Value,(rs.mapM (Qud a.tmps)).run P w=.ok vs w∧vs.length=rs.length ∧
   ∀(i:Nat) (v:Value) (u:AV),vs[i]? = some v→(rs.map (q0z P env σ))[i]? = some u→qbg w I μ σ v u
 | [],_=>⟨[],rfl,rfl,fun i v u hv=>by simp at hv⟩
 | r::rs,ho=>by
  obtain⟨v,h1,h2⟩:=Qll (P:=P) hR hE ho.1
  obtain⟨vs,h3,h4,h5⟩:=Qaa hR hE rs ho.2
  refine⟨v::vs,?_,by simp[h4],fun i v' u hv hu=>?_⟩
  ·rw[List.mapM_cons]
   simp only[Sem.run_bind]
   rw[h1]
   simp only[Result.andThen_ok]
   rw[h3]
   simp
  ·cases i with
   | zero=>simp at hv hu;subst hv;subst hu;exact h2
   | succ i=>exact h5 i v' u (by simpa using hv) (by simpa using hu)
theorem q7a (hR:Rel w I μ σ) (hE:qbz n w I μ σ env a) {fn:Func} (ho:qwb P env σ fn.results.toList):∃v,(results fn a.tmps).run P w=.ok v w∧qbg w I μ σ v (Qpb P env σ fn.results.toList):=by
 obtain⟨vs,h1,h2,h3⟩:=Qaa (P:=P) hR hE fn.results.toList ho
 have hrun:(fn.results.mapM (Qud a.tmps)).run P w=.ok vs.toArray w:=by
  rw[Array.mapM_eq_mapM_toList]
  simp only[Sem.run_map,h1,Result.andThen_ok]
 have e:(results fn a.tmps).run P w=.ok (if h:vs.toArray.size=1 then vs.toArray[0] else .tuple vs.toArray) w:=by
  have e0:results fn a.tmps=(do let vs ←fn.results.mapM (Qud a.tmps);pure (if h:vs.size=1 then vs[0] else .tuple vs)):=by
   unfold results
   congr 1
  rw[e0]
  simp only[Sem.run_bind,hrun,Result.andThen_ok,Sem.run_pure]
 refine⟨_,e,?_⟩
 cases hl:fn.results.toList with
 | nil=>
  rw[hl] at h2 h3
  have:vs=[]:=List.eq_nil_of_length_eq_zero h2
  subst this
  exact .tup [] [] rfl (fun i v u hv=>by simp at hv)
 | cons r rs=>
  rw[hl] at h2 h3
  cases rs with
  | nil=>
   cases vs with
   | nil=>simp at h2
   | cons v vs=>
    simp at h2
    subst h2
    exact h3 0 v _ rfl rfl
  | cons r2 rs=>
   rw[dif_neg (by simp[h2])]
   exact .tup vs _ (by simp[h2]) h3
theorem Qe3 {vals:List Value} {args:List AV} (hl:vals.length=args.length) (hr:∀(i:Nat) (v:Value) (u:AV),vals[i]? = some v→args[i]? = some u→qbg w I μ σ v u) (hn:args.length≤n) :
  qbz n w I μ σ (qak args 0) {tmps:=vals.toArray++Array.replicate (n-vals.toArray.size) Go.undef,defers:=[]}:=by
 refine⟨rfl,by simp;omega,fun t=>?_⟩
 rw[qu7]
 simp only[Nat.zero_le,if_true,Nat.sub_zero]
 rcases Nat.lt_or_ge t args.length with ht|ht
 ·have h1:vals[t]? = some vals[t]:=List.getElem?_eq_getElem (by omega)
  have h2:args[t]? = some args[t]:=List.getElem?_eq_getElem ht
  have e:(vals.toArray++Array.replicate (n-vals.toArray.size) Go.undef).getD t Go.undef=vals[t]:=by
   rw[Array.getD_eq_getD_getElem?,Array.getElem?_append_left (by simp;omega)]
   simp[h1]
  rw[e,List.getD_eq_getElem?_getD,h2]
  exact hr t _ _ h1 h2
 ·rw[List.getD_eq_getElem?_getD,List.getElem?_eq_none ht]
  exact .undef _
theorem qac {f:FuncId} {fn:Func} {c:Code} {args:List AV} {R:AV→Sto→Prop} (hf:P.funcs[f]? = some fn) (hname:(fn.name == "runtime.NumGoroutine")=false) (hb:fn.body=some c) (hn:args.length≤fn.ntmps)
  (h:AWp P Gl fn.ntmps σ.length c (qak args 0) σ (Qwa P σ.length fn.results.toList R)):qal P Gl f args σ R:=by
 intro w I μ vals hR hG hl hr
 have e:(callFunc f vals.toArray).run P w=.ok (.enter f vals.toArray) w:=by
  have hne:¬fn.name = "runtime.NumGoroutine" := by simpa using hname
  simp[callFunc,hf,hb,hne]
 rw[e]
 refine⟨rfl,calls_of_wp hf hb ?_⟩
 refine Code.wp_mono (fun x a' w' q=>?_) (h w I μ _ hR hG (Qe3 hl hr hn) (Nat.le_refl _))
 obtain⟨ae,env',σ',I',μ',q1,q2,q3,q4,q5,q6⟩:=q
 have fin:(qwb P env' σ' fn.results.toList∧∃r' s',qcz σ.length (Qpb P env' σ' fn.results.toList) σ' r' s'∧R r' s')→∃v,(results fn a'.tmps).run P w'=.ok v w'∧Qws w I μ σ R v w':=by
  rintro⟨h1,r',s',h2,h3⟩
  obtain⟨v,h4,h5⟩:=q7a (P:=P) q2 q4 h1
  obtain⟨I2,μ2,h6,h7,h8⟩:=h2 w' I' μ' v q2 h5 q5.len
  exact⟨v,h4,r',s',I2,μ2,h6,q5.trans h8,h7,h3⟩
 cases x<;>cases ae<;>simp only[Qk0] at q1
 ·obtain⟨v,h1,h2⟩:=fin q6;exact⟨q4.defers,v,h1,v,rfl,h2⟩
 ·exact q6.elim
 ·obtain⟨v,h1,h2⟩:=fin q6;exact⟨q4.defers,v,h1,v,rfl,h2⟩
def qch (ρ:List Nat) (id:Nat):Option Nat:=ρ.findIdx? (·==id)
def qkp (ρ:List Nat) (σ:Sto):AV→AV
 | .d x=>.d x
 | .nils=>.nils
 | .eptr es xs i off=>.eptr es xs i off
 | .ptr id off=>match qch ρ id with|some j=>.ptr j off|none=>.undef
 | .aptr id i off=>match qch ρ id with|some j=>.aptr j i off|none=>.undef
 | .osl id off len=>match qch ρ id with
  | some j=>.osl j off len
  | none=>if(qae σ id).isArr=true∧(qae σ id).own=false then .d (.sl (((qae σ id).xs.drop off).take len)) else .undef
 | .rsl id len=>match qch ρ id with|some j=>.rsl j len|none=>.undef
 | .mapr id=>match qch ρ id with|some j=>.mapr j|none=>.undef
 | .anyb=>.anyb
 | _=>.undef
def qbk (ρ:List Nat) (σ:Sto):AV→AV
 | .agg cs=>if(cs.map (qkp ρ σ)).all AV.one then qgo (cs.map (qkp ρ σ)) else .undef
 | .tup vs=>.tup (vs.map (qkp ρ σ))
 | .fn f caps=>.fn f (caps.map (qkp ρ σ))
 | .iff _ _=>.undef
 | v=>qkp ρ σ v
def qbx (ρ:List Nat) (σ:Sto):Blk→Blk
 | .box n v=>match qbk ρ σ v with
  | .undef=>.dead
  | v'=>.box n v'
 | .map ik f=>.map ik fun k=>(f k).map (qbk ρ σ)
 | B=>B
def qdp (ρ:List Nat) (σ:Sto):Sto:=ρ.map fun id=>qbx ρ σ (qae σ id)
def qe4 (ρ:List Nat) (μ:Pos):Pos:=fun j=>match ρ[j]? with|some id=>μ id|none=>none
theorem qkb {ρ:List Nat} {id j:Nat} (h:qch ρ id=some j):ρ[j]? = some id:=by
 unfold qch at h
 have:=List.findIdx?_eq_some_iff_getElem.1 h
 obtain⟨hj,h1,_⟩:=this
 rw[List.getElem?_eq_getElem hj]
 simpa using h1
theorem qf8 {ρ:List Nat} {j id:Nat} (h:ρ[j]? = some id):qae (qdp ρ σ) j=qbx ρ σ (qae σ id):=by
 unfold qdp
 conv=>lhs;unfold qae
 rw[List.getD_eq_getElem?_getD,List.getElem?_map,h];rfl
theorem q00 (ρ:List Nat) (σ':Sto) (B:Blk):(qbx ρ σ' B).isArr=B.isArr∧(qbx ρ σ' B).es=B.es∧(qbx ρ σ' B).xs=B.xs:=by
 cases B with
 | box n v=>simp only[qbx];split<;>exact⟨rfl,rfl,rfl⟩
 | _=>exact⟨rfl,rfl,rfl⟩
theorem qnz {ρ:List Nat} {σ':Sto} {B:Blk} (h:(qbx ρ σ' B).isDead=false):B.isDead=false:=by
 cases B<;>simp_all [qbx,Blk.isDead]
theorem Qaf (hR:Rel w I μ σ) {ρ:List Nat} {v:Value} {u:AV} (hv:qbg w I μ σ v u):qbg w I (qe4 ρ μ) (qdp ρ σ) v (qkp ρ σ u):=by
 have key:∀{id j:Nat},qch ρ id=some j→j<(qdp ρ σ).length∧(qcb (qdp ρ σ) j→qcb σ id)∧qe4 ρ μ j=μ id∧(qae (qdp ρ σ) j).isArr=(qae σ id).isArr∧(qae (qdp ρ σ) j).es=(qae σ id).es∧(qae (qdp ρ σ) j).xs=(qae σ id).xs:=fun {id j} hj=>by
  have hs:=qkb hj
  have hb:=qf8 (σ:=σ) hs
  obtain⟨a1,a2,a3⟩:=q00 ρ σ (qae σ id)
  refine⟨?_,fun ha=>?_,by unfold qe4;rw[hs],by rw[hb,a1],by rw[hb,a2],by rw[hb,a3]⟩
  ·unfold qdp;rw[List.length_map]
   rcases Nat.lt_or_ge j ρ.length with h'|h'
   ·exact h'
   ·rw[List.getElem?_eq_none h'] at hs;cases hs
  ·unfold qcb at *;rw[hb] at ha;exact qnz ha
 cases u with
 | d x=>exact .d _ _ hv.inv_d
 | nils=>cases hv;exact .nils
 | eptr es xs i off=>cases hv with|eptr b o _ _ _ _ hh=>exact .eptr b o es xs i off hh
 | ptr id off=>
  simp only[qkp]
  cases hj:qch ρ id with
  | none=>exact .undef _
  | some j=>
   obtain⟨k1,k2,k3,_⟩:=key hj
   cases hv with
   | ptr _ _ _ hid hh=>
    obtain⟨b,base,h1,h2⟩:=hh
    exact .ptr _ _ _ k1 ⟨b,base,fun ha=>by rw[k3];exact h1 (k2 ha),h2⟩
 | aptr id i off=>
  simp only[qkp]
  cases hj:qch ρ id with
  | none=>exact .undef _
  | some j=>
   obtain⟨k1,k2,k3,k4,k5,k6⟩:=key hj
   cases hv with
   | aptr _ _ _ _ hid hh=>
    obtain⟨b,base,es,h1,h2⟩:=hh
    exact .aptr _ _ _ _ k1 ⟨b,base,es,fun ha=>by rw[k3,k5];exact h1 (k2 ha),h2⟩
 | osl id off len=>
  simp only[qkp]
  cases hj:qch ρ id with
  | none=>
   by_cases hc:(qae σ id).isArr=true∧(qae σ id).own=false
   ·simp only[if_pos hc];exact .d _ _ (hv.oslData hR hc.1 hc.2)
   ·simp only[if_neg hc];exact .undef _
  | some j=>
   obtain⟨k1,k2,k3,k4,k5,k6⟩:=key hj
   obtain⟨hid,hh⟩:=qu1 hv
   refine .osl _ _ _ _ k1 ?_
   rcases hh with hh|⟨b,base,es,cap,h1,h2,h3⟩
   ·exact .inl hh
   ·refine .inr ⟨b,base,es,cap,fun ha=>?_,h2,h3⟩
    rw[k3,k4,k5,k6];exact h1 (k2 ha)
 | rsl id len=>
  simp only[qkp]
  cases hj:qch ρ id with
  | none=>exact .undef _
  | some j=>
   obtain⟨k1,k2,k3,_⟩:=key hj
   cases hv with
   | rsl _ _ _ hid hh=>
    obtain⟨b,base,cap,h1,h2⟩:=hh
    exact .rsl _ _ _ k1 ⟨b,base,cap,fun ha=>by rw[k3];exact h1 (k2 ha),h2⟩
 | mapr id=>
  simp only[qkp]
  cases hj:qch ρ id with
  | none=>exact .undef _
  | some j=>
   obtain⟨k1,k2,k3,_⟩:=key hj
   cases hv with
   | mapr _ _ hid hh=>
    obtain⟨b,h1,h2⟩:=hh
    exact .mapr _ _ k1 ⟨b,fun ha=>by rw[k3];exact h1 (k2 ha),h2⟩
 | anyb=>cases hv;exact .anyb _
 | _=>exact .undef _
theorem ql7 (hR:Rel w I μ σ) {ρ:List Nat} {v:Value} {u:AV} (hv:qbg w I μ σ v u):qbg w I (qe4 ρ μ) (qdp ρ σ) v (qbk ρ σ u):=by
 have lst:∀{vs:List Value} {cs:List AV},(∀(i:Nat) (v:Value) (x:AV),vs[i]? = some v→cs[i]? = some x→qbg w I μ σ v x)→∀(i:Nat) (v:Value) (x:AV),vs[i]? = some v→(cs.map (qkp ρ σ))[i]? = some x→qbg w I (qe4 ρ μ) (qdp ρ σ) v x:=fun {vs cs} h i v x hv hx=>by
  rw[List.getElem?_map] at hx
  cases hc:cs[i]? with
  | none=>rw[hc] at hx;cases hx
  | some c=>
   rw[hc] at hx
   simp only[Option.map_some,Option.some.injEq] at hx
   subst hx
   exact Qaf hR (h i v c hv hc)
 cases u with
 | agg cs=>
  cases hv with
  | agg vs _ hl hone hh=>
   simp only[qbk]
   split
   ·rename_i hall
    exact qjn (by simpa using hl) (fun c hc=>List.all_eq_true.1 hall c hc) (lst hh)
   ·exact .undef _
 | tup cs=>cases hv with|tup vs _ hl hh=>exact .tup vs _ (by simpa using hl) (lst hh)
 | fn f cs=>cases hv with|fn _ vs _ hl hh=>exact .fn f vs _ (by simpa using hl) (lst hh)
 | iff g x=>exact .undef _
 | _=>exact Qaf hR hv
theorem qxc (ρ:List Nat) (σ':Sto) (v:AV) (hu:qbk ρ σ' v≠.undef) (j:Nat) (hj:j<v.ncells):(qbk ρ σ' v).ncells=v.ncells∧(qbk ρ σ' v).cellAt j=qbk ρ σ' (v.cellAt j):=by
 cases v with
 | d x=>exact⟨rfl,rfl⟩
 | agg cs=>
  simp only[qbk] at hu ⊢
  split at hu
  ·rename_i hall
   rw[if_pos hall]
   simp only[AV.ncells] at hj
   refine⟨by rw[qjo];simp[AV.ncells],?_⟩
   rw[qjp _ _ (by simpa using hj)]
   have hone:(qkp ρ σ' cs[j]).one=true:=List.all_eq_true.1 hall _ (List.mem_map.2 ⟨cs[j],List.getElem_mem hj,rfl⟩)
   simp only[AV.cellAt,List.getD_eq_getElem?_getD,List.getElem?_map,List.getElem?_eq_getElem hj,Option.map_some,Option.getD_some]
   generalize cs[j]=c at *
   cases c<;>first|rfl|(simp[qkp,AV.one] at hone;done)
  ·exact absurd rfl hu
 | undef=>exact absurd rfl hu
 | iff _ _=>exact absurd rfl hu
 | nils=>exact⟨rfl,rfl⟩
 | eptr _ _ _ _=>exact⟨rfl,rfl⟩
 | fn _ _=>exact⟨rfl,rfl⟩
 | tup _=>exact⟨rfl,rfl⟩
 | anyb=>exact⟨rfl,rfl⟩
 | mapr id=>
  simp only[qbk,qkp] at hu ⊢
  cases h:qch ρ id with
  | none=>rw[h] at hu;exact absurd rfl hu
  | some k=>simp only[AV.cellAt,h];exact⟨rfl,trivial⟩
 | ptr id off=>
  simp only[qbk,qkp] at hu ⊢
  cases h:qch ρ id with
  | none=>rw[h] at hu;exact absurd rfl hu
  | some k=>simp only[AV.cellAt,h];exact⟨rfl,trivial⟩
 | rsl id len=>
  simp only[qbk,qkp] at hu ⊢
  cases h:qch ρ id with
  | none=>rw[h] at hu;exact absurd rfl hu
  | some k=>simp only[AV.cellAt,h];exact⟨rfl,trivial⟩
 | aptr id i off=>
  simp only[qbk,qkp] at hu ⊢
  cases h:qch ρ id with
  | none=>rw[h] at hu;exact absurd rfl hu
  | some k=>simp only[AV.cellAt,h];exact⟨rfl,trivial⟩
 | osl id off len=>
  simp only[qbk,qkp] at hu ⊢
  cases h:qch ρ id with
  | some k=>simp only[AV.cellAt,h];exact⟨rfl,trivial⟩
  | none=>
   rw[h] at hu
   by_cases hc:(qae σ' id).isArr=true∧(qae σ' id).own=false
   ·have hj0:j=0:=by simp only[AV.ncells] at hj;omega
    subst hj0
    simp only[if_pos hc,AV.cellAt,h]
    exact⟨rfl,rfl⟩
   ·simp only[if_neg hc] at hu;first|exact absurd rfl hu|exact(hu trivial).elim
def Qpe (live:List Nat) (ρ:List Nat) (σ:Sto) (env:Env):Env:=live.map fun t=>(t,qbk ρ σ (qem env t))
theorem q59:∀(live:List Nat) (ρ:List Nat) (σ:Sto) (env:Env) (t:Nat),qem (Qpe live ρ σ env) t=if t∈live then qbk ρ σ (qem env t) else .undef
 | [],ρ,σ,env,t=>by simp[Qpe,qem]
 | s::live,ρ,σ,env,t=>by
  have ih:=q59 live ρ σ env t
  unfold Qpe at ih ⊢
  simp only[List.map_cons,qem]
  by_cases e:s=t
  ·subst e;simp
  ·rw[if_neg e,ih]
   simp[Ne.symm e]
theorem Qgc (hR:Rel w I μ σ) {ρ:List Nat} (hm:ρ.take m=List.range m) (hnd:ρ.Nodup):Rel w I (qe4 ρ μ) (qdp ρ σ)∧qcn m w I μ σ w I (qe4 ρ μ) (qdp ρ σ):=by
 have hml:m≤ρ.length:=by
  have:=congrArg List.length hm
  simp at this;omega
 have hid:∀id,id<m→ρ[id]? = some id:=fun id h=>by
  have:(ρ.take m)[id]? = some id:=by rw[hm];simp[h]
  rwa [List.getElem?_take_of_lt h] at this
 refine⟨⟨hR.imm,fun j hj=>?_,fun i j b b' o o' hij hi hj hμi hμj=>?_⟩,⟨rfl,rfl,rfl,Nat.le_refl _,fun _ h=>h,fun _ h=>h,fun _ h=>.inl h,fun _ _=>rfl,fun _=>Nat.le_refl _,by simpa[qdp] using hml,fun id h hal=>?_⟩⟩
 ·simp only[qdp,List.length_map] at hj
  have hs:ρ[j]? = some ρ[j]:=List.getElem?_eq_getElem hj
  rw[qf8 hs]
  generalize ρ[j]=id at hs
  have hp:qe4 ρ μ j=μ id:=by unfold qe4;rw[hs]
  rcases Nat.lt_or_ge id σ.length with hl|hl
  ·have hb:=hR.blk id hl
   cases hB:qae σ id with
   | dead=>trivial
   | arr es xs=>rw[hB] at hb;simp only[qbx,qev] at hb ⊢;rw[hp];exact hb
   | frz es xs=>rw[hB] at hb;simp only[qbx,qev] at hb ⊢;rw[hp];exact hb
   | map ik f=>
    rw[hB] at hb
    obtain⟨b,es,clock,h1,h2,h3,h4⟩:=hb
    exact⟨b,es,clock,by rw[hp];exact h1,h2,h3,h4.imp fun v u hv=>ql7 hR hv⟩
   | box k v=>
    rw[hB] at hb
    obtain⟨b,base,h1,h2,h3,h4,h5,h6⟩:=hb
    by_cases hu:qbk ρ σ v=.undef
    ·simp only[qbx,hu];trivial
    ·have e:qbx ρ σ (.box k v)=.box k (qbk ρ σ v):=by
      simp only[qbx]
     rw[e]
     refine⟨b,base,by rw[hp];exact h1,h2,h3,h4,?_,fun q hq=>?_⟩
     ·rcases Nat.eq_zero_or_pos v.ncells with hz|hpos
      ·have:k=0:=by omega
       subst this
       cases v with
       | d x=>exact h5
       | agg cs=>
        simp only[qbk] at hu ⊢
        split at hu
        ·rename_i hall;rw[if_pos hall,qjo];simpa[AV.ncells] using h5
        ·exact absurd rfl hu
       | _=>simp[AV.ncells] at hz
      ·rw[(qxc ρ σ v hu 0 hpos).1];exact h5
     ·obtain⟨r1,u,r2,r3⟩:=h6 q hq
      obtain⟨_,c2⟩:=qxc ρ σ v hu q (by omega)
      have hrep:=ql7 hR (ρ:=ρ) r3
      rw[c2]
      refine⟨?_,u,r2,hrep⟩
      have hne:qbk ρ σ (v.cellAt q)≠.undef∨True:=.inr trivial
      rw[←c2]
      cases v with
      | d x=>exact r1
      | agg cs=>
       simp only[qbk] at hu ⊢
       split at hu
       ·rename_i hall
        rw[if_pos hall,qjp _ _ (by simp only[AV.ncells] at h5;simpa[h5] using hq)]
        have hql:q<cs.length:=by simp only[AV.ncells] at h5;omega
        simp only[List.getD_eq_getElem?_getD,List.getElem?_map,List.getElem?_eq_getElem hql,Option.map_some,Option.getD_some]
        exact List.all_eq_true.1 hall _ (List.mem_map.2 ⟨cs[q],List.getElem_mem hql,rfl⟩)
       ·exact absurd rfl hu
      | tup _=>simp[AV.cellAt,AV.one] at r1
      | iff _ _=>simp[AV.cellAt,AV.one] at r1
      | undef=>simp[AV.cellAt,AV.one] at r1
      | nils=>rfl
      | eptr _ _ _ _=>rfl
      | fn _ _=>rfl
      | anyb=>simp[AV.cellAt,AV.one] at r1
      | mapr id'=>
       simp only[qbk,qkp] at hu ⊢
       cases h:qch ρ id' with
       | none=>rw[h] at hu;exact absurd rfl hu
       | some k'=>rfl
      | ptr id' off=>
       simp only[qbk,qkp] at hu ⊢
       cases h:qch ρ id' with
       | none=>rw[h] at hu;exact absurd rfl hu
       | some k'=>rfl
      | aptr id' i off=>
       simp only[qbk,qkp] at hu ⊢
       cases h:qch ρ id' with
       | none=>rw[h] at hu;exact absurd rfl hu
       | some k'=>rfl
      | rsl id' len=>
       simp only[qbk,qkp] at hu ⊢
       cases h:qch ρ id' with
       | none=>rw[h] at hu;exact absurd rfl hu
       | some k'=>rfl
      | osl id' off len=>
       simp only[qbk,qkp] at hu ⊢
       cases h:qch ρ id' with
       | some k'=>rfl
       | none=>
        rw[h] at hu
        by_cases hc:(qae σ id').isArr=true∧(qae σ id').own=false
        ·simp only[if_pos hc,AV.cellAt]
         cases q with
         | zero=>rfl
         | succ q=>rfl
        ·simp only[if_neg hc] at hu;first|exact absurd rfl hu|exact(hu trivial).elim
  ·have:qae σ id=.dead:=by unfold qae;rw[List.getD_eq_getElem?_getD,List.getElem?_eq_none hl];rfl
   rw[this];trivial
 ·have own_:∀j,(qae (qdp ρ σ) j).own=true→∃id,ρ[j]? = some id∧(qae σ id).own=true:=fun j hj=>by
   have hl:=qbc hj
   simp only[qdp,List.length_map] at hl
   have hs:ρ[j]? = some ρ[j]:=List.getElem?_eq_getElem hl
   refine⟨ρ[j],hs,?_⟩
   rw[qf8 hs] at hj
   cases hB:qae σ ρ[j] with
   | box k v=>rfl
   | arr es xs=>rfl
   | map ik f=>rfl
   | _=>rw[hB] at hj;simp[qbx,Blk.own] at hj
  obtain⟨id1,e1,o1⟩:=own_ i hi
  obtain⟨id2,e2,o2⟩:=own_ j hj
  have hne:id1≠id2:=fun e=>by
   subst e
   have hl1:i<ρ.length:=by
    rcases Nat.lt_or_ge i ρ.length with h'|h'
    ·exact h'
    ·rw[List.getElem?_eq_none h'] at e1;cases e1
   exact hij ((List.getElem?_inj hl1 hnd).1 (e1.trans e2.symm))
  unfold qe4 at hμi hμj
  rw[e1] at hμi
  rw[e2] at hμj
  exact hR.apart id1 id2 b b' o o' hne o1 o2 hμi hμj
 ·have hs:=hid id h
  have hb:=qf8 (σ:=σ) hs
  obtain⟨a1,a2,a3⟩:=q00 ρ σ (qae σ id)
  unfold qcb at *
  rw[hb] at hal ⊢
  exact⟨qnz hal,by unfold qe4;rw[hs],a1,a2,by rw[a3];exact Nat.le_refl _⟩
theorem Qk6 (live fz ρ:List Nat) (hm:ρ.take m=List.range m) (hnd:ρ.Nodup) (env:Env) (σ:Sto):qgm n m env σ (Qpe live ρ (freezeL σ fz) env) (qdp ρ (freezeL σ fz)):=by
 intro w I μ a h1 h2 h3
 obtain⟨I',r1,r2,r3,_⟩:=qes h1 fz
 obtain⟨q1,q2⟩:=Qgc (m:=m) r1 hm hnd
 refine⟨I',qe4 ρ μ,q1,⟨h2.defers,h2.size,fun t=>?_⟩,(r2.mono h3).trans q2⟩
 rw[q59]
 split
 ·exact ql7 r1 (((h2.slot t)).keep r2)
 ·exact .undef _
theorem Qfn (fz ρ:List Nat) (hm:ρ.take m=List.range m) (hnd:ρ.Nodup) (r:AV) (σ:Sto):qcz m r σ (qbk ρ (freezeL σ fz) r) (qdp ρ (freezeL σ fz)):=by
 intro w I μ v h1 h2 h3
 obtain⟨I',r1,r2,r3,_⟩:=qes h1 fz
 obtain⟨q1,q2⟩:=Qgc (m:=m) r1 hm hnd
 exact⟨I',qe4 ρ μ,q1,ql7 r1 (h2.keep r2),(r2.mono h3).trans q2⟩
end Go.AM
