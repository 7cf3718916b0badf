/- A part of the proof: an abstract machine over data, and lemmas; nothing of the statement. No condition beyond those stated. -/
import Derived.WalkKit
import Derived.Orders
import Derived.Below
import Derived.MapKept
import Derived.Laws.StructEq
import Derived.ChangeKeysEq
import Derived.Laws.Tables
import Derived.Great.BuildSlice
import Derived.Laws.MakeOwn
set_option linter.unusedVariables false
set_option linter.unusedSimpArgs false
set_option linter.unusedSectionVars false
set_option linter.unnecessarySimpa false

theorem aI {a b:Prop} (x:a) (y:b):a∧b:=And.intro x y
namespace Go.AM
inductive D where
 | int (k:IntKind) (n:Int)
 | bool (b:Bool)
 | str (s:List UInt8)
 | agg (cs:List D)
 | sl (xs:List D)
 | raw (v:Value)
instance:Inhabited D:=⟨.bool false⟩
def D.cells:D→List D
 | .agg cs=>cs
 | x=>[x]
def D.one:D→Bool
 | .agg _=>false
 | _=>true
def D.isAgg:D→Bool
 | .agg _=>true
 | _=>false
def D.cell (x:D) (i:Nat):D:=x.cells.getD i default
def D.sub (x:D) (off n:Nat):D:=.agg ((x.cells.drop off).take n)
def D.flat (x:D):Prop:=∀c∈x.cells,c.one=true
def D.putAt (x:D) (N off n:Nat) (u:D):D:=
 if off=0∧n=N then u else .agg ((List.range N).map fun j=>if off≤j∧j<off+n then u.cell (j-off) else x.cell j)
def qr0:Value→Bool
 | .pointer none=>true
 | .map none=>true
 | .slice none 0 0=>true
 | .nilFunc=>true
 | .nilIface=>true
 | _=>false
structure Im where
 rd:Nat→Prop
 fr:Nat→Prop
 sub:∀b,rd b→fr b
inductive qdk (w:World) (I:Im):Value→D→Prop
 | int (k:IntKind) (n:Int):qdk w I (.int k n) (.int k n)
 | bool (b:Bool):qdk w I (.bool b) (.bool b)
 | str (s:List UInt8):qdk w I (.string ⟨s.toArray⟩) (.str s)
 | raw (v:Value) (h:qr0 v=true):qdk w I v (.raw v)
 | agg (vs:List Value) (cs:List D) (hl:vs.length=cs.length) (hone:∀c∈cs,c.one=true)
   (h:∀(i:Nat) (v:Value) (x:D),vs[i]? = some v→cs[i]? = some x→qdk w I v x):qdk w I (.agg vs.toArray) (.agg cs)
 | nil (a:Option Addr) (cap:Nat):qdk w I (.slice a 0 cap) (.sl [])
 | sl (b off es cap:Nat) (xs:List D) (vals:Nat→Nat→Value) (hI:I.rd b) (hcap:xs.length≤cap) (hes:∀x∈xs,x.cells.length=es) (hfl:∀x∈xs,x.flat)
   (hc:∀i j,i<xs.length→j<es→w.cell? ⟨b,off+i*es+j,none⟩=some (vals i j))
   (hr:∀(i j:Nat) (x y:D),xs[i]? = some x→x.cells[j]? = some y→qdk w I (vals i j) y):qdk w I (.slice (some ⟨b,off,none⟩) xs.length cap) (.sl xs)
structure Qe5 (w:World) (I:Im) (b off es:Nat) (xs:List D):Prop where
 imm:I.rd b
 size:∀x∈xs,x.cells.length=es
 flat:∀x∈xs,x.flat
 cell:∀(i j:Nat) (x y:D),xs[i]? = some x→x.cells[j]? = some y→∃v,w.cell? ⟨b,off+i*es+j,none⟩=some v∧qdk w I v y
inductive Key where
 | i (n:Int)
 | s (l:List UInt8)
deriving DecidableEq
def qe6:Option IntKind→Key→Prop
 | some _,.i _=>True
 | none,.s _=>True
 | _,_=>False
def qcs (ik:Option IntKind):Key→Value
 | .i n=>.int (ik.getD .i64) n
 | .s l=>.string ⟨l.toArray⟩
inductive AV where
 | undef
 | d (x:D)
 | nils
 | agg (cs:List AV)
 | ptr (id off:Nat)
 | eptr (es:Nat) (xs:List D) (i off:Nat)
 | aptr (id i off:Nat)
 | osl (id off len:Nat)
 | rsl (id len:Nat)
 | fn (f:FuncId) (caps:List AV)
 | tup (vs:List AV)
 | iff (g:Bool) (v:AV)
 | mapr (id:Nat)
 | anyb
instance:Inhabited AV:=⟨.undef⟩
def AV.one:AV→Bool
 | .d x=>x.one
 | .nils|.ptr ..|.osl ..|.rsl ..|.fn ..|.eptr ..|.aptr ..|.mapr _=>true
 | _=>false
inductive Blk where
 | dead
 | box (n:Nat) (v:AV)
 | arr (es:Nat) (xs:List D)
 | frz (es:Nat) (xs:List D)
 | map (ik:Option IntKind) (f:Key→Option AV)
instance:Inhabited Blk:=⟨.dead⟩
abbrev Sto:=List Blk
def qae (σ:Sto) (id:Nat):Blk:=σ.getD id .dead
def Blk.isDead:Blk→Bool
 | .dead=>true
 | _=>false
def qcb (σ:Sto) (id:Nat):Prop:=(qae σ id).isDead=false
def Blk.isArr:Blk→Bool
 | .arr ..|.frz ..=>true
 | _=>false
def Blk.es:Blk→Nat
 | .arr es _|.frz es _=>es
 | _=>0
def Blk.xs:Blk→List D
 | .arr _ xs|.frz _ xs=>xs
 | _=>[]
def Blk.own:Blk→Bool
 | .box ..|.arr ..|.map ..=>true
 | _=>false
def Blk.isMap:Blk→Bool
 | .map ..=>true
 | _=>false
def Blk.mk:Blk→Option IntKind
 | .map ik _=>ik
 | _=>none
def Blk.mf:Blk→Key→Option AV
 | .map _ f=>f
 | _=>fun _=>none
def AV.cellAt:AV→Nat→AV
 | .d x,j=>.d (x.cell j)
 | .agg cs,j=>cs.getD j .undef
 | v,_=>v
def AV.ncells:AV→Nat
 | .d x=>x.cells.length
 | .agg cs=>cs.length
 | _=>1
def qcf (w:World) (b:Nat):Nat:=match w.heap[b]? with|some (.cells c _ _)=>c.size|_=>0
def qdh (w:World) (b:Nat):Prop:=∃c t,w.heap[b]? = some (.cells c t (0,0))
abbrev Pos:=Nat→Option (Nat×Nat)
inductive qbg (w:World) (I:Im) (μ:Pos) (σ:Sto):Value→AV→Prop
 | undef (v:Value):qbg w I μ σ v .undef
 | d (v:Value) (x:D) (h:qdk w I v x):qbg w I μ σ v (.d x)
 | nils:qbg w I μ σ (.slice none 0 0) .nils
 | agg (vs:List Value) (cs:List AV) (hl:vs.length=cs.length) (hone:∀c∈cs,c.one=true)
   (h:∀(i:Nat) (v:Value) (x:AV),vs[i]? = some v→cs[i]? = some x→qbg w I μ σ v x):qbg w I μ σ (.agg vs.toArray) (.agg cs)
 | ptr (v:Value) (id off:Nat) (hid:id<σ.length) (h:∃b base,(qcb σ id→μ id=some (b,base))∧v=.pointer (some ⟨b,base+off,none⟩)):qbg w I μ σ v (.ptr id off)
 | eptr (b o es:Nat) (xs:List D) (i off:Nat) (h:Qe5 w I b o es xs):qbg w I μ σ (.pointer (some ⟨b,o+i*es+off,none⟩)) (.eptr es xs i off)
 | aptr (v:Value) (id i off:Nat) (hid:id<σ.length) (h:∃b base es,(qcb σ id→μ id=some (b,base)∧(qae σ id).es=es)∧v=.pointer (some ⟨b,base+i*es+off,none⟩)):qbg w I μ σ v (.aptr id i off)
 | osl (v:Value) (id off len:Nat) (hid:id<σ.length)
   (h:(len=0∧∃a,v=.slice a 0 0) ∨
    ∃b base es cap,(qcb σ id→μ id=some (b,base)∧(qae σ id).isArr=true∧(qae σ id).es=es∧off+len≤(qae σ id).xs.length∧base+(off+cap)*es≤qcf w b) ∧
     len≤cap∧v=.slice (some ⟨b,base+off*es,none⟩) len cap):qbg w I μ σ v (.osl id off len)
 | rsl (v:Value) (id len:Nat) (hid:id<σ.length)
   (h:∃b base cap,(qcb σ id→μ id=some (b,base)∧base+cap≤qcf w b)∧len≤cap∧v=.slice (some ⟨b,base,none⟩) len cap):qbg w I μ σ v (.rsl id len)
 | fn (f:FuncId) (vs:List Value) (caps:List AV) (hl:vs.length=caps.length)
   (h:∀(i:Nat) (v:Value) (x:AV),vs[i]? = some v→caps[i]? = some x→qbg w I μ σ v x):qbg w I μ σ (.func (.func f) #[] vs.toArray) (.fn f caps)
 | tup (vs:List Value) (cs:List AV) (hl:vs.length=cs.length)
   (h:∀(i:Nat) (v:Value) (x:AV),vs[i]? = some v→cs[i]? = some x→qbg w I μ σ v x):qbg w I μ σ (.tuple vs.toArray) (.tup cs)
 | iff (g:Bool) (v:Value) (x:AV) (h1:g=true→qbg w I μ σ v x) (h2:g=false→v=Go.undef):qbg w I μ σ v (.iff g x)
 | mapr (v:Value) (id:Nat) (hid:id<σ.length) (h:∃b,(qcb σ id→μ id=some (b,0))∧v=.map (some b)):qbg w I μ σ v (.mapr id)
 | anyb (b:Bool):qbg w I μ σ (.bool b) .anyb
structure qwm (w:World) (I:Im) (μ:Pos) (σ:Sto) (ik:Option IntKind) (f:Key→Option AV) (es:List MapEntry):Prop where
 keys:∀e∈es,∃k,qe6 ik k∧e.key=qcs ik k
 nodup:es.Pairwise fun e e'=>e.key≠e'.key
 hit:∀k v,qe6 ik k→f k=some v→∃e∈es,e.key=qcs ik k∧qbg w I μ σ e.val v
 miss:∀k,qe6 ik k→f k=none→∀e∈es,e.key≠qcs ik k
def qev (w:World) (I:Im) (μ:Pos) (σ:Sto) (id:Nat):Blk→Prop
 | .dead=>True
 | .box n v=>∃b base,μ id=some (b,base)∧¬I.fr b∧qdh w b∧base+n≤qcf w b∧v.ncells=n ∧
   ∀j,j<n→(v.cellAt j).one=true∧∃u,w.cell? ⟨b,base+j,none⟩=some u∧qbg w I μ σ u (v.cellAt j)
 | .arr es xs=>(μ id=none∧xs=[])∨∃b base,μ id=some (b,base)∧¬I.fr b∧qdh w b∧base+xs.length*es≤qcf w b∧(∀x∈xs,x.cells.length=es)∧(∀x∈xs,x.flat) ∧
   ∀(i j:Nat) (x y:D),xs[i]? = some x→x.cells[j]? = some y→∃v,w.cell? ⟨b,base+i*es+j,none⟩=some v∧qdk w I v y
 | .frz es xs=>(μ id=none∧xs=[])∨∃b base,μ id=some (b,base)∧Qe5 w I b base es xs
 | .map ik f=>∃b es clock,μ id=some (b,0)∧¬I.fr b∧(w.heap[b]? = some (.map es clock)∧MapKept.Stamped es clock)∧qwm w I μ σ ik f es.toList
structure Rel (w:World) (I:Im) (μ:Pos) (σ:Sto):Prop where
 imm:∀b,I.fr b→b<w.heap.size
 blk:∀id,id<σ.length→qev w I μ σ id (qae σ id)
 apart:∀i j b b' o o',i≠j→(qae σ i).own=true→(qae σ j).own=true→μ i=some (b,o)→μ j=some (b',o')→b≠b'
abbrev Env:=List (Nat×AV)
def qem (env:Env) (t:Nat):AV:=
 match env with
 | []=>.undef
 | (s,v)::r=>if s=t then v else qem r t
structure qbz (n:Nat) (w:World) (I:Im) (μ:Pos) (σ:Sto) (env:Env) (a:Act):Prop where
 defers:a.defers=[]
 size:a.tmps.size=n
 slot:∀t,qbg w I μ σ (a.tmps.getD t Go.undef) (qem env t)
structure qcn (m:Nat) (w:World) (I:Im) (μ:Pos) (σ:Sto) (w':World) (I':Im) (μ':Pos) (σ':Sto):Prop where
 os:w'.os=w.os
 tape:w'.tape=w.tape
 output:w'.output=w.output
 size:w.heap.size≤w'.heap.size
 imm:∀b,I.rd b→I'.rd b
 fr:∀b,I.fr b→I'.fr b
 rdn:∀b,I'.rd b→I.rd b∨¬I.fr b
 same:∀b,I.fr b→w'.heap[b]? = w.heap[b]?
 bsize:∀b,qcf w b≤qcf w' b
 len:m≤σ'.length
 old:∀id,id<m→qcb σ' id→qcb σ id∧μ' id=μ id∧(qae σ' id).isArr=(qae σ id).isArr∧(qae σ' id).es=(qae σ id).es∧(qae σ id).xs.length≤(qae σ' id).xs.length
theorem qcn.refl {m:Nat} (w:World) (I:Im) (μ:Pos) (σ:Sto) (hm:m≤σ.length):qcn m w I μ σ w I μ σ:=
 ⟨rfl,rfl,rfl,Nat.le_refl _,fun _ h=>h,fun _ h=>h,fun _ h=>.inl h,fun _ _=>rfl,fun _=>Nat.le_refl _,hm,fun _ _ h=>⟨h,rfl,rfl,rfl,Nat.le_refl _⟩⟩
theorem qcn.trans {m:Nat} {w w1 w2:World} {I I1 I2:Im} {μ μ1 μ2:Pos} {σ σ1 σ2:Sto}
  (h:qcn m w I μ σ w1 I1 μ1 σ1) (k:qcn m w1 I1 μ1 σ1 w2 I2 μ2 σ2):qcn m w I μ σ w2 I2 μ2 σ2:=
 ⟨k.os.trans h.os,k.tape.trans h.tape,k.output.trans h.output,Nat.le_trans h.size k.size,fun b hb=>k.imm b (h.imm b hb),fun b hb=>k.fr b (h.fr b hb),
  (fun b hb=>(k.rdn b hb).elim (fun h1=>h.rdn b h1) (fun h1=>.inr (fun h2=>h1 (h.fr b h2)))),
  fun b hb=>(k.same b (h.fr b hb)).trans (h.same b hb),fun b=>Nat.le_trans (h.bsize b) (k.bsize b),k.len,fun id hi ha=>by
   obtain⟨a1,e1,r1,s1,l1⟩:=k.old id hi ha
   obtain⟨a2,e2,r2,s2,l2⟩:=h.old id hi a1
   exact⟨a2,e1.trans e2,r1.trans r2,s1.trans s2,Nat.le_trans l2 l1⟩⟩
theorem qcn.mono {m m':Nat} {w w':World} {I I':Im} {μ μ':Pos} {σ σ':Sto} (h:qcn m w I μ σ w' I' μ' σ') (hm:m'≤m):qcn m' w I μ σ w' I' μ' σ':=
 ⟨h.os,h.tape,h.output,h.size,h.imm,h.fr,h.rdn,h.same,h.bsize,Nat.le_trans hm h.len,fun id hi=>h.old id (Nat.lt_of_lt_of_le hi hm)⟩
theorem qcn.rsame {m:Nat} {w w':World} {I I':Im} {μ μ':Pos} {σ σ':Sto} (h:qcn m w I μ σ w' I' μ' σ'):∀b,I.rd b→w'.heap[b]? = w.heap[b]? := fun b hb=>h.same b (I.sub b hb)
theorem qdk.keep {w w':World} {I I':Im} (himm:∀b,I.rd b→I'.rd b) (hsame:∀b,I.rd b→w'.heap[b]? = w.heap[b]?) {v:Value} {x:D} (h:qdk w I v x):qdk w' I' v x:=by
 induction h with
 | int k n=>exact .int k n
 | bool b=>exact .bool b
 | str s=>exact .str s
 | raw v h=>exact .raw v h
 | agg vs cs hl hone h ih=>exact .agg vs cs hl hone ih
 | nil a cap=>exact .nil a cap
 | sl b off es cap xs vals hI hcap hes hfl hc hr ih=>
  exact .sl b off es cap xs vals (himm b hI) hcap hes hfl (fun i j hi hj=>by rw[World.cell?_of_block (w:=w) (hsame b hI)];exact hc i j hi hj) ih
theorem Qe5.keep {w w':World} {I I':Im} (himm:∀b,I.rd b→I'.rd b) (hsame:∀b,I.rd b→w'.heap[b]? = w.heap[b]?) {b o es:Nat} {xs:List D} (h:Qe5 w I b o es xs):Qe5 w' I' b o es xs:=
 ⟨himm b h.imm,h.size,h.flat,fun i j x y hx hy=>by
  obtain⟨v,hv,hr⟩:=h.cell i j x y hx hy
  exact⟨v,by rw[World.cell?_of_block (w:=w) (hsame b h.imm)];exact hv,hr.keep himm hsame⟩⟩
theorem qbg.keep {w w':World} {I I':Im} {μ μ':Pos} {σ σ':Sto} (k:qcn σ.length w I μ σ w' I' μ' σ') {v:Value} {x:AV} (h:qbg w I μ σ v x):qbg w' I' μ' σ' v x:=by
 induction h with
 | undef v=>exact .undef v
 | d v x h=>exact .d v x (h.keep k.imm k.rsame)
 | nils=>exact .nils
 | agg vs cs hl hone h ih=>exact .agg vs cs hl hone ih
 | ptr v id off hid h=>
  obtain⟨b,base,h1,h2⟩:=h
  refine .ptr v id off (Nat.lt_of_lt_of_le hid k.len) ⟨b,base,fun ha=>?_,h2⟩
  obtain⟨a1,e1,_⟩:=k.old id hid ha
  rw[e1];exact h1 a1
 | eptr b o es xs i off h=>exact .eptr b o es xs i off (h.keep k.imm k.rsame)
 | aptr v id i off hid h=>
  obtain⟨b,base,es,h1,h2⟩:=h
  refine .aptr v id i off (Nat.lt_of_lt_of_le hid k.len) ⟨b,base,es,fun ha=>?_,h2⟩
  obtain⟨a1,e1,_,e2,_⟩:=k.old id hid ha
  rw[e1,e2];exact h1 a1
 | osl v id off len hid h=>
  refine .osl v id off len (Nat.lt_of_lt_of_le hid k.len) ?_
  rcases h with h|⟨b,base,es,cap,h1,h2,h3⟩
  ·exact .inl h
  ·refine .inr ⟨b,base,es,cap,fun ha=>?_,h2,h3⟩
   obtain⟨a1,e1,e2,e3,e4⟩:=k.old id hid ha
   obtain⟨p1,p2,p3,p4,p5⟩:=h1 a1
   exact⟨e1.trans p1,e2.trans p2,e3.trans p3,Nat.le_trans p4 e4,Nat.le_trans p5 (k.bsize b)⟩
 | rsl v id len hid h=>
  obtain⟨b,base,cap,h1,h2,h3⟩:=h
  refine .rsl v id len (Nat.lt_of_lt_of_le hid k.len) ⟨b,base,cap,fun ha=>?_,h2,h3⟩
  obtain⟨a1,e1,_⟩:=k.old id hid ha
  obtain⟨p1,p2⟩:=h1 a1
  exact⟨e1.trans p1,Nat.le_trans p2 (k.bsize b)⟩
 | fn f vs caps hl h ih=>exact .fn f vs caps hl ih
 | tup vs cs hl h ih=>exact .tup vs cs hl ih
 | iff g v x h1 h2 ih=>exact .iff g v x ih h2
 | mapr v id hid h=>
  obtain⟨b,h1,h2⟩:=h
  refine .mapr v id (Nat.lt_of_lt_of_le hid k.len) ⟨b,fun ha=>?_,h2⟩
  obtain⟨a1,e1,_⟩:=k.old id hid ha
  rw[e1];exact h1 a1
 | anyb b=>exact .anyb b
theorem qwm.imp {w w':World} {I I':Im} {μ μ':Pos} {σ σ':Sto} {ik:Option IntKind} {f:Key→Option AV} {g:AV→AV} {es:List MapEntry} (h:qwm w I μ σ ik f es) (hr:∀v u,qbg w I μ σ v u→qbg w' I' μ' σ' v (g u)):qwm w' I' μ' σ' ik (fun k=>(f k).map g) es:=
 ⟨h.keys,h.nodup,fun k v hk hv=>by
  cases hf:f k with
  | none=>rw[hf] at hv;cases hv
  | some u=>
   rw[hf] at hv
   simp only[Option.map_some,Option.some.injEq] at hv
   subst hv
   obtain⟨e,h1,h2,h3⟩:=h.hit k u hk hf
   exact⟨e,h1,h2,hr _ _ h3⟩,fun k hk hv=>h.miss k hk (by cases hf:f k with|none=>rfl|some u=>rw[hf] at hv;cases hv)⟩
theorem qwm.imp' {w w':World} {I I':Im} {μ μ':Pos} {σ σ':Sto} {ik:Option IntKind} {f:Key→Option AV} {es:List MapEntry} (h:qwm w I μ σ ik f es) (hr:∀v u,qbg w I μ σ v u→qbg w' I' μ' σ' v u):qwm w' I' μ' σ' ik f es:=by
 have:=h.imp (g:=fun u=>u) hr
 have e:(fun k=>(f k).map fun u=>u)=f:=by funext k;cases f k<;>rfl
 rwa [e] at this
theorem qdh.same {w w':World} {b:Nat} (h:qdh w b) (e:w'.heap[b]? = w.heap[b]?):qdh w' b:=by
 obtain⟨c,t,hc⟩:=h
 exact⟨c,t,e.trans hc⟩
theorem qeu {w w':World} {b:Nat} (e:w'.heap[b]? = w.heap[b]?):qcf w' b=qcf w b:=by unfold qcf;rw[e]
theorem qev.keep {w w':World} {I I':Im} {μ μ':Pos} {σ σ':Sto} (k:qcn σ.length w I μ σ w' I' μ' σ') {id:Nat} {B:Blk} (hμ:μ' id=μ id)
  (hb:B.own=true→∀b o,μ id=some (b,o)→w'.heap[b]? = w.heap[b]? ∧ (¬I.fr b→¬I'.fr b)) (h:qev w I μ σ id B):qev w' I' μ' σ' id B:=by
 cases B with
 | dead=>trivial
 | box n v=>
  obtain⟨b,base,h1,h2,h3,h4,h5,h6⟩:=h
  obtain⟨e,ni⟩:=hb rfl b base h1
  refine⟨b,base,hμ.trans h1,ni h2,h3.same e,by rw[qeu e];exact h4,h5,fun j hj=>?_⟩
  obtain⟨h7,u,h8,h9⟩:=h6 j hj
  exact⟨h7,u,by rw[World.cell?_of_block (w:=w) e];exact h8,h9.keep k⟩
 | arr es xs=>
  rcases h with⟨h1,h2⟩|⟨b,base,h1,h2,h3,h4,h5,h6,h7⟩
  ·exact .inl ⟨hμ.trans h1,h2⟩
  ·obtain⟨e,ni⟩:=hb rfl b base h1
   refine .inr ⟨b,base,hμ.trans h1,ni h2,h3.same e,by rw[qeu e];exact h4,h5,h6,fun i j x y hx hy=>?_⟩
   obtain⟨v,hv,hr⟩:=h7 i j x y hx hy
   exact⟨v,by rw[World.cell?_of_block (w:=w) e];exact hv,hr.keep k.imm k.rsame⟩
 | frz es xs=>
  rcases h with⟨h1,h2⟩|⟨b,base,h1,h2⟩
  ·exact .inl ⟨hμ.trans h1,h2⟩
  ·exact .inr ⟨b,base,hμ.trans h1,h2.keep k.imm k.rsame⟩
 | map ik f=>
  obtain⟨b,es,clock,h1,h2,h3,h4⟩:=h
  obtain⟨e,ni⟩:=hb rfl b 0 h1
  exact⟨b,es,clock,hμ.trans h1,ni h2,⟨e.trans h3.1,h3.2⟩,h4.imp' fun v u hv=>hv.keep k⟩
theorem qbz.keep {n:Nat} {w w':World} {I I':Im} {μ μ':Pos} {σ σ':Sto} (k:qcn σ.length w I μ σ w' I' μ' σ') {env:Env} {a:Act} (h:qbz n w I μ σ env a):qbz n w' I' μ' σ' env a:=
 ⟨h.defers,h.size,fun t=>(h.slot t).keep k⟩
theorem qbz.put {n:Nat} {w:World} {I:Im} {μ:Pos} {σ:Sto} {env:Env} {a:Act} (h:qbz n w I μ σ env a) {d:Nat} (hd:d<n) {v:Value} {x:AV} (hv:qbg w I μ σ v x) :
  qbz n w I μ σ ((d,x)::env) (a.put (some d) v):=by
 refine⟨h.defers,by simp[Act.put,h.size],fun t=>?_⟩
 have hs:=h.size
 by_cases e:d=t
 ·subst e
  simp only[Act.put,qem,if_true]
  rw[Array.getD_eq_getD_getElem?,Array.getElem?_setIfInBounds_self_of_lt (by omega)]
  exact hv
 ·simp only[Act.put,qem,if_neg e]
  rw[Array.getD_eq_getD_getElem?,Array.getElem?_setIfInBounds_ne e,←Array.getD_eq_getD_getElem?]
  exact h.slot t
theorem Qn2 {σ:Sto} {id:Nat} (h:qcb σ id):id<σ.length:=by
 unfold qcb qae at h
 rcases Nat.lt_or_ge id σ.length with h'|h'
 ·exact h'
 ·rw[List.getD_eq_getElem?_getD,List.getElem?_eq_none h'] at h;simp[Blk.isDead] at h
theorem qa8 {σ τ:Sto} {id:Nat} (h:id<σ.length):qae (σ++τ) id=qae σ id:=by
 unfold qae;simp[List.getD_eq_getElem?_getD,List.getElem?_append_left h]
theorem qb5 {σ:Sto} {B:Blk}:qae (σ++[B]) σ.length=B:=by
 unfold qae;simp[List.getD_eq_getElem?_getD]
theorem qbq {σ:Sto} {i j:Nat} {B:Blk} (h:i≠j):qae (σ.set i B) j=qae σ j:=by
 unfold qae;simp[List.getD_eq_getElem?_getD,List.getElem?_set_ne h]
theorem qbl {σ:Sto} {i:Nat} {B:Blk} (h:i<σ.length):qae (σ.set i B) i=B:=by
 unfold qae;simp[List.getD_eq_getElem?_getD,List.getElem?_set_self h]
end Go.AM


namespace Go.AM
variable {w w':World} {I:Im} {μ:Pos} {σ:Sto}
structure qfl (w w':World):Prop where
 os:w'.os=w.os
 tape:w'.tape=w.tape
 output:w'.output=w.output
 heap:w'.heap=w.heap
theorem qfl.refl (w:World):qfl w w:=⟨rfl,rfl,rfl,rfl⟩
theorem qfl.drew (w:World):qfl w {w with drawn:=w.drawn+1}:=⟨rfl,rfl,rfl,rfl⟩
theorem qfl.keep (s:qfl w w'):qcn σ.length w I μ σ w' I μ σ:=
 ⟨s.os,s.tape,s.output,by rw[s.heap];exact Nat.le_refl _,fun _ h=>h,fun _ h=>h,fun _ h=>.inl h,fun _ _=>by rw[s.heap],fun b=>by unfold qcf;rw[s.heap];exact Nat.le_refl _,Nat.le_refl _,fun _ _ h=>⟨h,rfl,rfl,rfl,Nat.le_refl _⟩⟩
theorem qfl.rel (s:qfl w w') (h:Rel w I μ σ):Rel w' I μ σ:=
 ⟨fun b hb=>by rw[s.heap];exact h.imm b hb,fun id hid=>(h.blk id hid).keep s.keep rfl (fun _ b o _=>⟨by rw[s.heap],fun hn=>hn⟩),h.apart⟩
def qed (μ:Pos) (id:Nat) (p:Nat×Nat):Pos:=fun i=>if i=id then some p else μ i
theorem qbt (μ:Pos) (id:Nat) (p:Nat×Nat):qed μ id p id=some p:=by simp[qed]
theorem qc8 (μ:Pos) {id i:Nat} (p:Nat×Nat) (h:i≠id):qed μ id p i=μ i:=by simp[qed,h]
theorem qno (w:World) (o:Obj) (b:Nat):qcf w b≤qcf (w.alloc o) b:=by
 unfold qcf
 rcases Nat.lt_or_ge b w.heap.size with h|h
 ·rw[RowKit.Below.heap_alloc _ _ _ h];exact Nat.le_refl _
 ·rw[Array.getElem?_eq_none h];exact Nat.zero_le _
theorem qfn (w:World) (o:Obj):(w.alloc o).heap[w.heap.size]? = some o:=by
 show(w.heap.push o)[w.heap.size]? = some o
 simp
theorem qgk (w:World) (c:Array Value) (t:TypeId):qcf (w.alloc (.cells c t)) w.heap.size=c.size:=by
 unfold qcf;rw[qfn]
theorem qqc (w:World) (c:Array Value) (t:TypeId):qdh (w.alloc (.cells c t)) w.heap.size:=⟨c,t,qfn _ _⟩
theorem qd3 (h:Rel w I μ σ) (o:Obj) (p:Nat×Nat) (B:Blk):qcn σ.length w I μ σ (w.alloc o) I (qed μ σ.length p) (σ++[B]):=
 ⟨rfl,rfl,rfl,by simp,fun _ h=>h,fun _ h=>h,fun _ h=>.inl h,fun b hb=>RowKit.Below.heap_alloc _ _ _ (h.imm b hb),qno w o,by simp,fun id hid ha=>by
  refine⟨?_,qc8 _ _ (by omega),?_⟩
  ·unfold qcb at *;rw[qa8 hid] at ha;exact ha
  ·rw[qa8 hid];exact⟨rfl,rfl,Nat.le_refl _⟩⟩
theorem qjk (h:Rel w I μ σ) {id:Nat} (hid:id<σ.length) (ho:(qae σ id).own=true) {b o:Nat} (hμ:μ id=some (b,o)):b<w.heap.size∧¬I.fr b:=by
 have hb:=h.blk id hid
 cases e:qae σ id with
 | dead=>rw[e] at ho;simp[Blk.own] at ho
 | frz es xs=>rw[e] at ho;simp[Blk.own] at ho
 | box n v=>
  rw[e] at hb
  obtain⟨b',base,h1,h2,⟨c,t,h3⟩,_⟩:=hb
  rw[hμ] at h1
  simp only[Option.some.injEq,Prod.mk.injEq] at h1
  obtain⟨rfl,rfl⟩:=h1
  refine⟨?_,h2⟩
  rcases Nat.lt_or_ge b w.heap.size with h'|h'
  ·exact h'
  ·rw[Array.getElem?_eq_none h'] at h3;cases h3
 | arr es xs=>
  rw[e] at hb
  rcases hb with⟨h1,_⟩|⟨b',base,h1,h2,⟨c,t,h3⟩,_⟩
  ·rw[hμ] at h1;cases h1
  ·rw[hμ] at h1
   simp only[Option.some.injEq,Prod.mk.injEq] at h1
   obtain⟨rfl,rfl⟩:=h1
   refine⟨?_,h2⟩
   rcases Nat.lt_or_ge b w.heap.size with h'|h'
   ·exact h'
   ·rw[Array.getElem?_eq_none h'] at h3;cases h3
 | map ik f=>
  rw[e] at hb
  obtain⟨b',es,clock,h1,h2,⟨h3,_⟩,_⟩:=hb
  rw[hμ] at h1
  simp only[Option.some.injEq,Prod.mk.injEq] at h1
  obtain⟨rfl,rfl⟩:=h1
  refine⟨?_,h2⟩
  rcases Nat.lt_or_ge b w.heap.size with h'|h'
  ·exact h'
  ·rw[Array.getElem?_eq_none h'] at h3;cases h3
theorem qbc {id:Nat} (ho:(qae σ id).own=true):id<σ.length:=by
 rcases Nat.lt_or_ge id σ.length with h'|h'
 ·exact h'
 ·unfold qae at ho;rw[List.getD_eq_getElem?_getD,List.getElem?_eq_none h'] at ho;simp[Blk.own] at ho
theorem Rel.alloc (h:Rel w I μ σ) (o:Obj) (B:Blk)
  (hB:qev (w.alloc o) I (qed μ σ.length (w.heap.size,0)) (σ++[B]) σ.length B):Rel (w.alloc o) I (qed μ σ.length (w.heap.size,0)) (σ++[B]):=by
 refine⟨fun b hb=>?_,fun id hid=>?_,?_⟩
 ·have:=h.imm b hb
  simp;omega
 ·simp only[List.length_append,List.length_cons,List.length_nil] at hid
  by_cases e:id=σ.length
  ·subst e;rw[qb5];exact hB
  ·have hid':id<σ.length:=by omega
   rw[qa8 hid']
   refine(h.blk id hid').keep (qd3 h o _ B) (qc8 _ _ e) fun ho b o' hμ=>⟨RowKit.Below.heap_alloc _ _ _ (qjk h hid' ho hμ).1,fun hn=>hn⟩
 ·intro i j b b' oi oj hij hi hj hμi hμj
  have li:=qbc hi
  have lj:=qbc hj
  simp only[List.length_append,List.length_cons,List.length_nil] at li lj
  by_cases ei:i=σ.length
  ·subst ei
   have lj':j<σ.length:=by omega
   rw[qbt] at hμi
   rw[qc8 _ _ (by omega)] at hμj
   rw[qa8 lj'] at hj
   have:=(qjk h lj' hj hμj).1
   simp only[Option.some.injEq,Prod.mk.injEq] at hμi
   omega
  ·have li':i<σ.length:=by omega
   rw[qc8 _ _ ei] at hμi
   rw[qa8 li'] at hi
   by_cases ej:j=σ.length
   ·subst ej
    rw[qbt] at hμj
    have:=(qjk h li' hi hμi).1
    simp only[Option.some.injEq,Prod.mk.injEq] at hμj
    omega
   ·have lj':j<σ.length:=by omega
    rw[qc8 _ _ ej] at hμj
    rw[qa8 lj'] at hj
    exact h.apart i j b b' oi oj hij hi hj hμi hμj
theorem Rel.newBox (h:Rel w I μ σ) (c:Array Value) (t:TypeId) (v:AV) (hn:v.ncells=c.size)
  (hc:∀j u,c[j]? = some u→(v.cellAt j).one=true∧qbg w I μ σ u (v.cellAt j)) :
  Rel (w.alloc (.cells c t)) I (qed μ σ.length (w.heap.size,0)) (σ++[.box c.size v]):=by
 refine h.alloc _ _ ⟨w.heap.size,0,qbt _ _ _,fun hI=>?_,qqc _ _ _,by rw[qgk];omega,hn,fun j hj=>?_⟩
 ·have:=h.imm _ hI;omega
 ·obtain⟨h1,h2⟩:=hc j c[j] (by simp[hj])
  exact⟨h1,c[j],by rw[Nat.zero_add,World.cell?_alloc_new];simp[hj],h2.keep (qd3 h _ _ _)⟩
theorem Qdu (c:Array Value) (t:TypeId) (v:AV) :
  qbg (w.alloc (.cells c t)) I (qed μ σ.length (w.heap.size,0)) (σ++[.box c.size v]) (.pointer (some ⟨w.heap.size,0,none⟩)) (.ptr σ.length 0):=
 .ptr _ _ _ (by simp) ⟨w.heap.size,0,fun _=>qbt _ _ _,rfl⟩
theorem Rel.newArr (h:Rel w I μ σ) (c:Array Value) (t:TypeId) (es:Nat) (xs:List D) (hn:xs.length*es≤c.size) (hes:∀x∈xs,x.cells.length=es) (hfl:∀x∈xs,x.flat)
  (hc:∀(i j:Nat) (x y:D),xs[i]? = some x→x.cells[j]? = some y→∃u,c[i*es+j]? = some u∧qdk w I u y) :
  Rel (w.alloc (.cells c t)) I (qed μ σ.length (w.heap.size,0)) (σ++[.arr es xs]):=by
 refine h.alloc _ _ (.inr ⟨w.heap.size,0,qbt _ _ _,fun hI=>?_,qqc _ _ _,by rw[qgk];omega,hes,hfl,fun i j x y hx hy=>?_⟩)
 ·have:=h.imm _ hI;omega
 ·obtain⟨u,h1,h2⟩:=hc i j x y hx hy
  have k:=qd3 h (.cells c t) (w.heap.size,0) (.arr es xs)
  exact⟨u,by rw[World.cell?_alloc_new,Nat.zero_add];exact h1,h2.keep k.imm k.rsame⟩
structure qfk (b:Nat) (w w':World):Prop where
 os:w'.os=w.os
 tape:w'.tape=w.tape
 output:w'.output=w.output
 size:w'.heap.size=w.heap.size
 else_:∀b',b'≠b→w'.heap[b']? = w.heap[b']?
 bsize:qcf w' b=qcf w b
 plain:qdh w b→qdh w' b
theorem qfk.refl (b:Nat) (w:World):qfk b w w:=⟨rfl,rfl,rfl,rfl,fun _ _=>rfl,rfl,id⟩
theorem qfk.trans {b:Nat} {w w1 w2:World} (h:qfk b w w1) (k:qfk b w1 w2):qfk b w w2:=
 ⟨k.os.trans h.os,k.tape.trans h.tape,k.output.trans h.output,k.size.trans h.size,fun b' hb=>(k.else_ b' hb).trans (h.else_ b' hb),k.bsize.trans h.bsize,fun hp=>k.plain (h.plain hp)⟩
theorem qka {id b base:Nat} (h:Rel w I μ σ) (hown:(qae σ id).own=true) (hμ:μ id=some (b,base)) (ww:qfk b w w') (B:Blk)
  (ha:B.isArr=(qae σ id).isArr) (he:B.es=(qae σ id).es) (hl:(qae σ id).xs.length≤B.xs.length):qcn σ.length w I μ σ w' I μ (σ.set id B):=by
 have hid:=qbc hown
 obtain⟨_,hnI⟩:=qjk h hid hown hμ
 refine⟨ww.os,ww.tape,ww.output,by rw[ww.size];exact Nat.le_refl _,fun _ h=>h,fun _ h=>h,fun _ h=>.inl h,fun b' hb=>ww.else_ b' (fun e=>hnI (e▸hb)),fun b'=>?_,by simp,fun i hi hal=>?_⟩
 ·by_cases e:b'=b
  ·subst e;rw[ww.bsize];exact Nat.le_refl _
  ·rw[qeu (ww.else_ b' e)];exact Nat.le_refl _
 ·by_cases e:id=i
  ·subst e
   rw[qbl hid]
   refine⟨?_,rfl,ha,he,hl⟩
   unfold qcb
   cases hB:qae σ id<;>simp_all [Blk.own,Blk.isDead]
  ·unfold qcb at *
   rw[qbq e] at hal ⊢
   exact⟨hal,rfl,rfl,rfl,Nat.le_refl _⟩
theorem Rel.upd {id b base:Nat} (h:Rel w I μ σ) (hown:(qae σ id).own=true) (hμ:μ id=some (b,base)) (ww:qfk b w w') (B:Blk)
  (ha:B.isArr=(qae σ id).isArr) (he:B.es=(qae σ id).es) (hl:(qae σ id).xs.length≤B.xs.length)
  (hrep:qev w' I μ (σ.set id B) id B):Rel w' I μ (σ.set id B):=by
 have hid:=qbc hown
 have k:=qka h hown hμ ww B ha he hl
 refine⟨fun b' hb=>by rw[ww.size];exact h.imm b' hb,fun i hi=>?_,?_⟩
 ·by_cases e:id=i
  ·subst e;rw[qbl hid];exact hrep
  ·rw[qbq e]
   simp only[List.length_set] at hi
   refine(h.blk i hi).keep k rfl fun ho b' o' hμ'=>⟨ww.else_ b' ?_,fun hn=>hn⟩
   exact(h.apart id i b b' base o' e hown ho hμ hμ').symm
 ·intro i j bi bj oi oj hij hi hj hμi hμj
  have t:∀i,(qae (σ.set id B) i).own=true→(qae σ i).own=true:=fun i hi=>by
   by_cases e:id=i
   ·subst e;exact hown
   ·rwa [qbq e] at hi
  exact h.apart i j bi bj oi oj hij (t i hi) (t j hj) hμi hμj
theorem q5p (id:Nat):qcn σ.length w I μ σ w I μ (σ.set id .dead):=by
 refine⟨rfl,rfl,rfl,Nat.le_refl _,fun _ h=>h,fun _ h=>h,fun _ h=>.inl h,fun _ _=>rfl,fun _=>Nat.le_refl _,by simp,fun i hi hal=>?_⟩
 by_cases e:id=i
 ·subst e;unfold qcb at hal;rw[qbl hi] at hal;simp[Blk.isDead] at hal
 ·unfold qcb at *
  rw[qbq e] at hal ⊢
  exact⟨hal,rfl,rfl,rfl,Nat.le_refl _⟩
theorem Rel.kill (h:Rel w I μ σ) (id:Nat):Rel w I μ (σ.set id .dead):=by
 refine⟨h.imm,fun i hi=>?_,?_⟩
 ·simp only[List.length_set] at hi
  by_cases e:id=i
  ·subst e;rw[qbl hi];trivial
  ·rw[qbq e]
   exact(h.blk i hi).keep (q5p id) rfl fun _ _ _ _=>⟨rfl,fun hn=>hn⟩
 ·intro i j bi bj oi oj hij hi hj
  have t:∀i,(qae (σ.set id .dead) i).own=true→(qae σ i).own=true:=fun i hi=>by
   by_cases e:id=i
   ·subst e;have:=qbc hi;simp only[List.length_set] at this;rw[qbl this] at hi;simp[Blk.own] at hi
   ·rwa [qbq e] at hi
  exact h.apart i j bi bj oi oj hij (t i hi) (t j hj)
def Blk.frozen:Blk→Blk
 | .arr es xs=>.frz es xs
 | B=>B
def freeze (σ:Sto) (id:Nat):Sto:=σ.set id (qae σ id).frozen
def Qca (I:Im) (μ:Pos) (σ:Sto) (id:Nat):Im where
 rd:=fun b=>I.rd b∨((qae σ id).isArr=true∧(qae σ id).own=true∧∃o,μ id=some (b,o))
 fr:=fun b=>I.fr b∨((qae σ id).isArr=true∧(qae σ id).own=true∧∃o,μ id=some (b,o))
 sub:=fun b h=>h.elim (fun h=>.inl (I.sub b h)) .inr
theorem qur (h:Rel w I μ σ) (id:Nat):qcn σ.length w I μ σ w (Qca I μ σ id) μ (freeze σ id):=by
 refine⟨rfl,rfl,rfl,Nat.le_refl _,fun _ h=>.inl h,fun _ h=>.inl h,(fun b hb=>hb.elim .inl fun hb=>.inr (by obtain⟨_,h2,o,h3⟩:=hb;exact(qjk h (qbc h2) h2 h3).2)),fun _ _=>rfl,fun _=>Nat.le_refl _,by simp[freeze],fun i hi hal=>?_⟩
 unfold qcb freeze at *
 by_cases e:id=i
 ·subst e
  rw[qbl hi] at hal ⊢
  cases hB:qae σ id<;>simp_all [Blk.frozen,Blk.isArr,Blk.isDead,Blk.es,Blk.xs]
 ·rw[qbq e] at hal ⊢
  exact⟨hal,rfl,rfl,rfl,Nat.le_refl _⟩
theorem Rel.freeze (h:Rel w I μ σ) (id:Nat):Rel w (Qca I μ σ id) μ (freeze σ id):=by
 have k:qcn σ.length w I μ σ w (Qca I μ σ id) μ (AM.freeze σ id):=qur h id
 refine⟨fun b hb=>?_,fun i hi=>?_,?_⟩
 ·rcases hb with hb|⟨h1,h2,o,h3⟩
  ·exact h.imm b hb
  ·exact(qjk h (qbc h2) h2 h3).1
 ·simp only[AM.freeze,List.length_set] at hi
  by_cases e:id=i
  ·subst e
   have hb:=h.blk id hi
   have e2:qae (AM.freeze σ id) id=(qae σ id).frozen:=by unfold AM.freeze;rw[qbl hi]
   rw[e2]
   cases hB:qae σ id with
   | arr es xs=>
    rw[hB] at hb
    show qev _ _ _ _ _ (.frz es xs)
    rcases hb with h1|⟨b,base,h1,h2,h3,h4,h5,h6,h7⟩
    ·exact .inl h1
    ·refine .inr ⟨b,base,h1,.inr ⟨by rw[hB];rfl,by rw[hB];rfl,base,h1⟩,h5,h6,fun i j x y hx hy=>?_⟩
     obtain⟨v,hv,hr⟩:=h7 i j x y hx hy
     exact⟨v,hv,hr.keep k.imm k.rsame⟩
   | dead=>trivial
   | box n v=>
    rw[hB] at hb
    refine hb.keep (B:=.box n v) k rfl fun _ b o hμ=>⟨rfl,fun hn hI=>?_⟩
    rcases hI with hI|⟨h1,_⟩
    ·exact hn hI
    ·rw[hB] at h1;simp[Blk.isArr] at h1
   | frz es xs=>
    rw[hB] at hb
    exact hb.keep (B:=.frz es xs) k rfl fun ho=>by simp[Blk.own] at ho
   | map ik f=>
    rw[hB] at hb
    refine hb.keep (B:=.map ik f) k rfl fun _ b o hμ=>⟨rfl,fun hn hI=>?_⟩
    rcases hI with hI|⟨h1,_⟩
    ·exact hn hI
    ·rw[hB] at h1;simp[Blk.isArr] at h1
  ·have e2:qae (AM.freeze σ id) i=qae σ i:=by unfold AM.freeze;rw[qbq e]
   rw[e2]
   refine(h.blk i hi).keep k rfl fun ho b o hμ=>⟨rfl,fun hn hI=>?_⟩
   rcases hI with hI|⟨_,h2,o',h3⟩
   ·exact hn hI
   ·exact h.apart id i b b o' o e h2 ho h3 hμ rfl
 ·intro i j bi bj oi oj hij hi hj
  have t:∀i,(qae (AM.freeze σ id) i).own=true→(qae σ i).own=true:=fun i hi=>by
   unfold AM.freeze at hi
   by_cases e:id=i
   ·subst e
    have:=qbc hi;simp only[List.length_set] at this;rw[qbl this] at hi
    cases hB:qae σ id<;>rw[hB] at hi<;>simp_all [Blk.own,Blk.frozen]
   ·rwa [qbq e] at hi
  exact h.apart i j bi bj oi oj hij (t i hi) (t j hj)
theorem qbg.oslData (h:Rel w I μ σ) {v:Value} {id off len:Nat} (hv:qbg w I μ σ v (.osl id off len)) (hz:(qae σ id).isArr=true) (hown:(qae σ id).own=false) :
  qdk w I v (.sl (((qae σ id).xs.drop off).take len)):=by
 cases hv with
 | osl _ _ _ _ hid hv=>
  rcases hv with⟨rfl,a,rfl⟩|⟨b,base,es,cap,h1,h2,rfl⟩
  ·simpa using qdk.nil a 0
  ·cases hB:qae σ id with
   | frz es' xs=>
    have hb:=h.blk id hid
    have hal:qcb σ id:=by unfold qcb;rw[hB];rfl
    obtain⟨p1,p2,p3,p4,p5⟩:=h1 hal
    rw[hB] at hb p3 p4
    simp only[Blk.es,Blk.xs] at p3 p4 ⊢
    subst p3
    rcases hb with⟨h3,rfl⟩|⟨b',base',h3,hs⟩
    ·rw[p1] at h3;cases h3
    ·rw[p1] at h3
     simp only[Option.some.injEq,Prod.mk.injEq] at h3
     obtain⟨rfl,rfl⟩:=h3
     have hlen:((xs.drop off).take len).length=len:=by simp;omega
     have hget:∀i x,((xs.drop off).take len)[i]? = some x→xs[off+i]? = some x:=fun i x hx=>by
      rw[List.getElem?_take] at hx
      split at hx
      ·simpa using hx
      ·cases hx
     have hmem:∀x∈(xs.drop off).take len,x∈xs:=fun x hx=>List.mem_of_mem_drop (List.mem_of_mem_take hx)
     have key:=qdk.sl (w:=w) (I:=I) b (base+off*es') es' cap ((xs.drop off).take len) (fun i j=>(w.cell? ⟨b,base+off*es'+i*es'+j,none⟩).getD Go.undef) hs.imm (by rw[hlen];exact h2)
      (fun x hx=>hs.size x (hmem x hx)) (fun x hx=>hs.flat x (hmem x hx)) (fun i j hi hj=>?_) (fun i j x y hx hy=>?_)
     ·rw[hlen] at key;exact key
     ·have hx:((xs.drop off).take len)[i]? = some ((xs.drop off).take len)[i]:=List.getElem?_eq_getElem hi
      have hx':=hget i _ hx
      have hsz:=hs.size _ (List.mem_of_getElem? hx')
      have hy:((xs.drop off).take len)[i].cells[j]? = some (((xs.drop off).take len)[i].cells[j]'(by rw[hsz];exact hj)):=List.getElem?_eq_getElem _
      obtain⟨u,hu,_⟩:=hs.cell (off+i) j _ _ hx' hy
      have ea:base+(off+i)*es'+j=base+off*es'+i*es'+j:=by rw[Nat.add_mul];omega
      rw[ea] at hu
      rw[hu];rfl
     ·obtain⟨u,hu,hr⟩:=hs.cell (off+i) j x y (hget i x hx) hy
      have ea:base+(off+i)*es'+j=base+off*es'+i*es'+j:=by rw[Nat.add_mul];omega
      rw[ea] at hu
      rw[hu];exact hr
   | dead=>rw[hB] at hz;simp[Blk.isArr] at hz
   | box n v=>rw[hB] at hz;simp[Blk.isArr] at hz
   | map ik f=>rw[hB] at hz;simp[Blk.isArr] at hz
   | arr es xs=>rw[hB] at hown;simp[Blk.own] at hown
end Go.AM


namespace Go.AM
def AV.un:AV→AV
 | .iff _ a=>a
 | a=>a
def AV.vg:AV→Bool
 | .iff g _=>g
 | _=>true
def AV.isAgg:AV→Bool
 | .d x=>x.isAgg
 | .agg _=>true
 | _=>false
def AV.storable:AV→Bool
 | .undef=>false
 | .tup _=>false
 | .iff _ _=>false
 | .anyb=>false
 | _=>true
def AV.isPtr:AV→Bool
 | .ptr ..|.eptr ..|.aptr ..=>true
 | _=>false
def AV.shift:AV→Nat→AV
 | .ptr id off,n=>.ptr id (off+n)
 | .eptr es xs i off,n=>.eptr es xs i (off+n)
 | .aptr id i off,n=>.aptr id i (off+n)
 | v,_=>v
def AV.isIntv:AV→Bool
 | .d (.int _ _)=>true
 | _=>false
def AV.num:AV→Int
 | .d (.int _ n)=>n
 | _=>0
def AV.isBoolv:AV→Bool
 | .d (.bool _)=>true
 | _=>false
def AV.truth:AV→Bool
 | .d (.bool b)=>b
 | _=>false
def q0o:List AV→Option (List D)
 | []=>some []
 | .d x::r=>(q0o r).map (x::·)
 | _::_=>none
def qgo (cs:List AV):AV:=match q0o cs with|some ds=>.d (.agg ds)|none=>.agg cs
def qgh:Value→AV
 | .bool b=>.d (.bool b)
 | .int k n=>.d (.int k n)
 | .string s=>.d (.str s.data.toList)
 | .slice none 0 0=>.nils
 | .pointer none=>.d (.raw (.pointer none))
 | .map none=>.d (.raw (.map none))
 | .nilFunc=>.d (.raw .nilFunc)
 | .nilIface=>.d (.raw .nilIface)
 | _=>.undef
def qdb:Value→AV
 | .agg cs=>if(cs.toList.map qgh).all AV.one then qgo (cs.toList.map qgh) else .undef
 | v=>qgh v
abbrev qbd:=List (Nat×D)
def q58 (Gl:qbd) (g:Nat):AV:=match Gl.find? (fun p=>p.1==g) with|some p=>.eptr p.2.cells.length [p.2] 0 0|none=>.undef
def evO (Gl:qbd) (env:Env):Operand→AV
 | .tmp t=>qem env t
 | .const v=>qdb v
 | .global g=>q58 Gl g
 | .func f=>.fn f []
def q9v (σ:Sto):AV→D
 | .d x=>x
 | .nils=>.sl []
 | .osl id off len=>.sl (((qae σ id).xs.drop off).take len)
 | _=>default
def q56 (σ:Sto):AV→Bool
 | .d _=>true
 | .nils=>true
 | .osl id _ _=>(qae σ id).isArr
 | _=>false
def q7b:AV→List Nat
 | .osl id _ _=>[id]
 | _=>[]
def AV.toD (σ:Sto):AV→D
 | .agg cs=>.agg (cs.map (q9v σ))
 | v=>q9v σ v
def AV.isD (σ:Sto):AV→Bool
 | .agg cs=>cs.all (q56 σ)
 | v=>q56 σ v
def AV.refs:AV→List Nat
 | .agg cs=>cs.flatMap q7b
 | v=>q7b v
def freezeL (σ:Sto) (l:List Nat):Sto:=l.foldl freeze σ
def qbm (P:Program) (t:TypeId):Option Bool:=
 match P.underlying t with
 | some (.struct _)=>some true
 | some (.array _ _)=>some true
 | some _=>some false
 | none=>none
def tsz (P:Program) (t:TypeId):Option Nat:=(P.info? t).map (·.size)
def qbs (P:Program) (t:TypeId):Option Value:=(P.info? t).bind (·.zero)
def qd6 (P:Program) (s:TypeId) (f:Nat):Option (Nat×Nat×Bool):=
 match P.underlying s with
 | some (.struct fs)=>match fs[f]? with
  | some x=>match tsz P x.type,qbm P x.type with
   | some n,some g=>some (x.offset,n,g)
   | _,_=>none
  | none=>none
 | _=>none
def qkg (P:Program) (t:TypeId):Option (Option Nat×Nat):=
 match P.underlying t with
 | some (.slice e)=>(tsz P e).map fun n=>(none,n)
 | some (.array k e)=>(tsz P e).map fun n=>(some k,n)
 | _=>none
def qcc (P:Program) (t:TypeId):Option TypeId:=
 match P.underlying t with
 | some (.slice e)=>some e
 | _=>none
def qbn (P:Program) (t:TypeId):Option Nat:=(P.info? t).map (·.bytes)
def Qfs (P:Program) (t:TypeId):Bool:=match P.underlying t with|some .string=>true|_=>false
def AV.subV:AV→Nat→Nat→AV
 | .d x,off,n=>.d (x.sub off n)
 | .agg cs,off,n=>qgo ((cs.drop off).take n)
 | v,_,_=>v
def qm8 (N off n:Nat) (g whole:Bool):Prop:=off+n≤N∧(if off=0∧n=N then whole=g else(whole=true∧(g=true∨n=1)))
def AV.partV (v:AV) (N off n:Nat) (g:Bool):AV:=if off=0∧n=N then v else if g=true then v.subV off n else v.cellAt off
def D.partD (x:D) (N off n:Nat) (g:Bool):D:=if off=0∧n=N then x else if g=true then x.sub off n else x.cell off
def Blk.boxN:Blk→Nat
 | .box n _=>n
 | _=>0
def Blk.boxV:Blk→AV
 | .box _ v=>v
 | _=>.undef
def Blk.isBox:Blk→Bool
 | .box ..=>true
 | _=>false
def Blk.isOwnArr:Blk→Bool
 | .arr ..=>true
 | _=>false
def Qdy (σ:Sto) (g:Bool) (n:Nat):AV→Prop
 | .ptr id off=>(qae σ id).isBox=true∧qm8 (qae σ id).boxN off n g (qae σ id).boxV.isAgg
 | .eptr es xs i off=>i<xs.length∧qm8 es off n g (xs.getD i default).isAgg
 | .aptr id i off=>(qae σ id).isArr=true∧i<(qae σ id).xs.length∧qm8 (qae σ id).es off n g ((qae σ id).xs.getD i default).isAgg
 | _=>False
def ldV (σ:Sto) (g:Bool) (n:Nat):AV→AV
 | .ptr id off=>(qae σ id).boxV.partV (qae σ id).boxN off n g
 | .eptr es xs i off=>.d ((xs.getD i default).partD es off n g)
 | .aptr id i off=>.d (((qae σ id).xs.getD i default).partD (qae σ id).es off n g)
 | _=>.undef
def Qpu (v:AV) (N off n:Nat) (u:AV):AV:=
 if off=0∧n=N then u else qgo ((List.range N).map fun j=>if off≤j∧j<off+n then u.cellAt (j-off) else v.cellAt j)
def Qua (σ:Sto) (n:Nat) (u:AV):AV→Prop
 | .ptr id off=>(qae σ id).isBox=true∧off+n≤(qae σ id).boxN∧u.storable=true∧u.ncells=n
 | .aptr id i off=>(qae σ id).isOwnArr=true∧i<(qae σ id).xs.length∧off+n≤(qae σ id).es∧u.isD σ=true∧(u.toD σ).cells.length=n∧(¬id∈u.refs)
 | _=>False
def stS (σ:Sto) (n:Nat) (u:AV):AV→Sto
 | .ptr id off=>σ.set id (.box (qae σ id).boxN (Qpu (qae σ id).boxV (qae σ id).boxN off n u))
 | .aptr id i off=>(freezeL σ u.refs).set id (.arr (qae σ id).es ((qae σ id).xs.set i (((qae σ id).xs.getD i default).putAt (qae σ id).es off n (u.toD σ))))
 | _=>σ
def qho (xs:List D) (off n:Nat) (z:D):List D:=(List.range xs.length).map fun i=>if off≤i∧i<off+n then z else xs.getD i default
def qk8 (op:BinOp) (k:IntKind) (a b:Int):D:=
 match op with
 | .add=>.int k (k.wrap (a+b))
 | .sub=>.int k (k.wrap (a-b))
 | .mul=>.int k (k.wrap (a*b))
 | .quo=>.int k (k.wrap (a.tdiv b))
 | .rem=>.int k (a.tmod b)
 | .and=>.int k (k.wrap ((BitVec.ofInt k.bits a) &&& (BitVec.ofInt k.bits b)).toNat)
 | .or=>.int k (k.wrap ((BitVec.ofInt k.bits a) ||| (BitVec.ofInt k.bits b)).toNat)
 | .xor=>.int k (k.wrap ((BitVec.ofInt k.bits a) ^^^ (BitVec.ofInt k.bits b)).toNat)
 | .andNot=>.int k (k.wrap ((BitVec.ofInt k.bits a) &&& ~~~(BitVec.ofInt k.bits b)).toNat)
 | .shl=>.int k (k.wrap (a*2 ^ (min b.toNat k.bits)))
 | .shr=>.int k (a.fdiv (2 ^ (min b.toNat k.bits)))
 | .eql=>.bool (a==b)
 | .neq=>.bool (a !=b)
 | .lss=>.bool (decide (a<b))
 | .leq=>.bool (decide (a≤b))
 | .gtr=>.bool (decide (a>b))
 | .geq=>.bool (decide (a≥b))
def qda (op:BinOp) (k k':IntKind) (b:Int):Prop:=
 match op with
 | .shl|.shr=>0≤b
 | .quo|.rem=>k=k'∧b≠0
 | _=>k=k'
def qkn (op:BinOp) (a b:List UInt8):D:=
 match op with
 | .add=>.str (a++b)
 | .eql=>.bool (a==b)
 | .neq=>.bool (!(a==b))
 | .lss=>.bool (Op.bytesLess a b)
 | .leq=>.bool (Op.bytesLess a b||a==b)
 | .gtr=>.bool (!(Op.bytesLess a b||a==b))
 | .geq=>.bool (!(Op.bytesLess a b))
 | _=>default
def qez (op:BinOp) (a b:List UInt8):Prop:=
 match op with
 | .add=>((a.length+b.length:Nat):Int)≤9223372036854775807
 | .eql|.neq|.lss|.leq|.gtr|.geq=>True
 | _=>False
def D.beq1:D→D→Bool
 | .int _ a,.int _ b=>a==b
 | .bool a,.bool b=>a==b
 | .str a,.str b=>a==b
 | _,_=>false
def D.cmp1:D→Nat→D→Bool
 | .int k _,0,.int k' _=>decide (k=k')
 | .bool _,1,.bool _=>true
 | .str _,2,.str _=>true
 | _,_,_=>false
def qhs:List D→List D→Bool
 | a::r,b::s=>a.beq1 b&&qhs r s
 | _,_=>true
def qke:List Nat→List D→List D→Bool
 | c::cs,a::r,b::s=>a.cmp1 c b&&qke cs r s
 | [],[],[]=>true
 | _,_,_=>false
def qlc (op:BinOp):D→D→D
 | .int k a,.int _ b=>qk8 op k a b
 | .str a,.str b=>qkn op a b
 | .bool a,.bool b=>match op with|.eql=>.bool (a==b)|.neq=>.bool (!(a==b))|_=>default
 | .agg a,.agg b=>match op with|.eql=>.bool (qhs a b)|.neq=>.bool (!(qhs a b))|_=>default
 | _,_=>default
def q5o (P:Program) (g:TypeId→Option (List Nat)):List Field→Nat→Option (List Nat)
 | [],_=>some []
 | f::r,o=>if f.name ≠ "_" ∧ f.offset=o then
   match g f.type with
   | some l=>if tsz P f.type=some l.length∧0<l.length then(match q5o P g r (o+l.length) with|some l'=>some (l++l')|none=>none) else none
   | none=>none
  else none
def Qdz (P:Program):Nat→TypeId→Option (List Nat)
 | 0,_=>none
 | d+1,t=>match P.underlying t with
  | some (.int _)=>some [0]
  | some .bool=>some [1]
  | some .string=>some [2]
  | some (.struct fs)=>if P.stoodInHeld t=false then q5o P (Qdz P d) fs.toList 0 else none
  | some (.array n e)=>match Qdz P d e with
   | some l=>if tsz P e=some l.length∧0<l.length then some (List.replicate n l).flatten else none
   | none=>none
  | _=>none
def qlx (P:Program) (t:TypeId):Option (List Nat):=if qbm P t=some true∧P.eqGuardType P.depth t=false then Qdz P 6 t else none
def qf0 (P:Program) (t:TypeId) (op:BinOp):D→D→Prop
 | .int k _,.int k' b=>qda op k k' b
 | .str a,.str b=>qez op a b
 | .bool _,.bool _=>(match op with|.eql|.neq=>True|_=>False)∧P.underlying t=some .bool
 | .agg a,.agg b=>(match op with|.eql|.neq=>True|_=>False)∧(match qlx P t with|some l=>qke l a b=true|none=>False)
 | _,_=>False
def qiu (P:Program) (t:TypeId):Option (Option IntKind×TypeId):=
 match P.underlying t with
 | some (.map k e)=>match P.underlying k with
  | some (.int ik)=>some (some ik,e)
  | some .string=>some (none,e)
  | _=>none
 | _=>none
def Qdb (P:Program) (t:TypeId):Bool:=match P.underlying t with|some (.pointer _)=>true|_=>false
def qce (P:Program) (t:TypeId):AV:=match qbs P t with|some z=>qdb z|none=>.undef
def qct:AV→Key
 | .d (.int _ n)=>.i n
 | .d (.str l)=>.s l
 | _=>.i 0
def qki (ik:Option IntKind):AV→Prop
 | .d (.int k _)=>ik=some k
 | .d (.str _)=>ik=none
 | _=>False
def qgs (f:Key→Option AV) (k:Key) (v:AV):Key→Option AV:=fun k'=>if k'=k then some v else f k'
def Qhm (f:Key→Option AV) (k:Key):Key→Option AV:=fun k'=>if k'=k then none else f k'
def Qp5 (σ:Sto) (ik:Option IntKind):AV→Prop
 | .mapr id=>(qae σ id).isMap=true∧(qae σ id).mk=ik
 | .d (.raw (.map none))=>True
 | _=>False
def lkF (σ:Sto):AV→Key→Option AV
 | .mapr id=>(qae σ id).mf
 | _=>fun _=>none
def Qs0 (σ:Sto) (ik:Option IntKind) (m v:AV):Prop:=match m with
 | .mapr id=>(qae σ id).isMap=true∧(qae σ id).mk=ik∧v.storable=true
 | _=>False
def muS (σ:Sto) (k:Key) (v:AV):AV→Sto
 | .mapr id=>σ.set id (.map (qae σ id).mk (qgs (qae σ id).mf k v))
 | _=>σ
def mdS (σ:Sto) (k:Key):AV→Sto
 | .mapr id=>σ.set id (.map (qae σ id).mk (Qhm (qae σ id).mf k))
 | _=>σ
def qc9:AV→AV
 | .nils=>.d (.bool true)
 | .d (.raw _)=>.d (.bool true)
 | .d (.sl xs)=>if xs.isEmpty=true then .anyb else .d (.bool false)
 | .osl _ _ n=>if n=0 then .anyb else .d (.bool false)
 | .ptr ..|.eptr ..|.aptr ..|.mapr _=>.d (.bool false)
 | _=>.undef
def qjm (op:BinOp) (a:AV):AV:=match op,a with
 | .eql,a=>a
 | .neq,.d (.bool b)=>.d (.bool (!b))
 | .neq,.anyb=>.anyb
 | _,_=>.undef
def Qu0 (P:Program) (t:TypeId) (op:BinOp) (u v:AV):Prop:=(op=.eql∨op=.neq)∧match v,u with
 | .nils,.nils=>(qcc P t).isSome=true
 | .nils,.d (.sl _)=>(qcc P t).isSome=true
 | .nils,.osl ..=>(qcc P t).isSome=true
 | .d (.raw (.pointer none)),.ptr ..=>Qdb P t=true
 | .d (.raw (.pointer none)),.eptr ..=>Qdb P t=true
 | .d (.raw (.pointer none)),.aptr ..=>Qdb P t=true
 | .d (.raw (.pointer none)),.d (.raw (.pointer none))=>Qdb P t=true
 | .d (.raw (.map none)),.mapr _=>(qiu P t).isSome=true
 | .d (.raw (.map none)),.d (.raw (.map none))=>(qiu P t).isSome=true
 | _,_=>False
def AV.isNilc:AV→Bool
 | .nils=>true
 | .d (.raw _)=>true
 | _=>false
def Qsn (op:BinOp):AV→AV→AV
 | .d x,.d y=>.d (qlc op x y)
 | _,_=>.undef
def q60 (op:BinOp) (u v:AV):AV:=if v.isNilc=true then qjm op (qc9 u) else Qsn op u v
def Qqo (P:Program) (t:TypeId) (op:BinOp):AV→AV→Prop
 | .d x,.d y=>qf0 P t op x y
 | _,_=>False
def qf4 (P:Program) (t:TypeId) (op:BinOp) (u v:AV):Prop:=if v.isNilc=true then Qu0 P t op u v else Qqo P t op u v
def unV (op:UnOp):AV→AV
 | .d (.int k n)=>match op with
  | .neg=>.d (.int k (k.wrap (0-n)))
  | .xor=>.d (qk8 .xor k (if k.signed then -1 else k.max) n)
  | _=>.undef
 | .d (.bool b)=>match op with
  | .not=>.d (.bool (!b))
  | _=>.undef
 | _=>.undef
def Qqv (op:UnOp):AV→Prop
 | .d (.int _ _)=>match op with|.neg|.xor=>True|_=>False
 | .d (.bool _)=>match op with|.not=>True|_=>False
 | _=>False
def AV.len:AV→Nat
 | .d (.sl xs)=>xs.length
 | .d (.str s)=>s.length
 | .osl _ _ n=>n
 | .rsl _ n=>n
 | _=>0
def AV.hasLen (P:Program) (t:TypeId):AV→Bool
 | .d (.sl _)=>(qcc P t).isSome
 | .osl _ _ _=>(qcc P t).isSome
 | .rsl _ _=>(qcc P t).isSome
 | .nils=>(qcc P t).isSome
 | .d (.str _)=>Qfs P t
 | _=>false
def AV.elems (σ:Sto):AV→List D
 | .d (.sl xs)=>xs
 | .osl id off len=>((qae σ id).xs.drop off).take len
 | _=>[]
def q1w (σ:Sto) (es:Nat) (i:Int):AV→Prop
 | .d (.sl xs)=>0≤i∧i<xs.length∧(xs.getD i.toNat default).cells.length=es
 | .osl id _ len=>0≤i∧i<len∧(qae σ id).isArr=true∧(qae σ id).es=es
 | .rsl id len=>0≤i∧i<len∧(qae σ id).isBox=true∧es=1
 | _=>False
def Qve (es:Nat) (i:Int):AV→AV
 | .d (.sl xs)=>.eptr es xs i.toNat 0
 | .osl id off _=>.aptr id (off+i.toNat) 0
 | .rsl id _=>.ptr id i.toNat
 | _=>.undef
def Qkr (k:Nat) (i:Int) (p:AV):Prop:=p.isPtr=true∧0≤i∧i<k∧2≤k
def Qdj (P:Program) (t:TypeId) (σ:Sto) (lo hi:Int):AV→Prop
 | .d (.str s)=>Qfs P t=true∧0≤lo∧lo≤hi∧hi≤s.length
 | .d (.sl xs)=>((qkg P t).isSome=true∧(qcc P t).isSome=true)∧0≤lo∧lo≤hi∧hi≤xs.length∧(match qkg P t with|some (_,es)=>∀x∈xs,x.cells.length=es|none=>False)
 | .osl id _ len=>(qcc P t).isSome=true∧0≤lo∧lo≤hi∧hi≤len∧(qae σ id).isArr=true∧qkg P t=some (none,(qae σ id).es)
 | .nils=>(qcc P t).isSome=true∧(qkg P t).isSome=true∧lo=0∧hi=0
 | _=>False
def slV (lo hi:Int):AV→AV
 | .d (.str s)=>.d (.str ((s.take hi.toNat).drop lo.toNat))
 | .d (.sl xs)=>.d (.sl ((xs.take hi.toNat).drop lo.toNat))
 | .osl id off _=>.osl id (off+lo.toNat) (hi.toNat-lo.toNat)
 | .nils=>.nils
 | _=>.undef
end Go.AM


namespace Go.AM
variable {P:Program} {w:World} {I:Im} {μ:Pos} {σ:Sto}
theorem Qkd (s:ByteArray):(⟨s.data.toList.toArray⟩:ByteArray)=s:=by
 cases s;simp
theorem qnq:∀{cs:List AV} {ds:List D},q0o cs=some ds→cs=ds.map AV.d
 | [],ds,h=>by simp[q0o] at h;subst h;rfl
 | c::r,ds,h=>by
  cases c<;>simp only[q0o] at h<;>first|cases h|skip
  rename_i x
  cases hr:q0o r with
  | none=>simp[hr] at h
  | some l=>
   simp[hr] at h
   subst h
   rw[qnq hr];rfl
theorem qbg.inv_d {v:Value} {x:D} (h:qbg w I μ σ v (.d x)):qdk w I v x:=by cases h;assumption
theorem qjn {vs:List Value} {cs:List AV} (hl:vs.length=cs.length) (hone:∀c∈cs,c.one=true)
  (h:∀(i:Nat) (v:Value) (x:AV),vs[i]? = some v→cs[i]? = some x→qbg w I μ σ v x):qbg w I μ σ (.agg vs.toArray) (qgo cs):=by
 unfold qgo
 cases hd:q0o cs with
 | none=>exact .agg vs cs hl hone h
 | some ds=>
  have e:=qnq hd
  subst e
  refine .d _ _ (.agg vs ds (by simpa using hl) (fun c hc=>hone (.d c) (List.mem_map.2 ⟨c,hc,rfl⟩)) fun i v x hv hx=>?_)
  exact(h i v (.d x) hv (by simp[hx])).inv_d
theorem qoh (v:Value):qbg w I μ σ v (qgh v):=by
 unfold qgh
 split<;>first
  | exact .d _ _ (.bool _)
  | exact .d _ _ (.int _ _)
  | exact .nils
  | exact .undef _
  | (refine .d _ _ ?_;rename_i s;have:=qdk.str (w:=w) (I:=I) s.data.toList;rwa [Qkd] at this)
  | exact .d _ _ (.raw _ rfl)
theorem qkd (v:Value):qbg w I μ σ v (qdb v):=by
 cases v with
 | agg cs=>
  show qbg w I μ σ _ (if(cs.toList.map qgh).all AV.one then qgo (cs.toList.map qgh) else .undef)
  by_cases h:(cs.toList.map qgh).all AV.one=true
  ·rw[if_pos h]
   have:=qjn (w:=w) (I:=I) (μ:=μ) (σ:=σ) (vs:=cs.toList) (cs:=cs.toList.map qgh) (by simp) (fun c hc=>List.all_eq_true.1 h c hc) (fun i v x hv hx=>by
    rw[List.getElem?_map,hv] at hx
    simp only[Option.map_some,Option.some.injEq] at hx
    subst hx
    exact qoh v)
   simpa only[Array.toArray_toList] using this
  ·rw[if_neg h];exact .undef _
 | _=>exact qoh _
theorem Qjb (Gl:qbd) (hG:∀p∈Gl,Qe5 w I p.1 0 p.2.cells.length [p.2]) (g:Nat):qbg w I μ σ (.pointer (some ⟨g,0,none⟩)) (q58 Gl g):=by
 unfold q58
 cases h:Gl.find? (fun p=>p.1==g) with
 | none=>exact .undef _
 | some p=>
  have h1:=List.mem_of_find?_eq_some h
  have h2:=List.find?_some h
  simp at h2
  subst h2
  simpa using qbg.eptr (w:=w) (I:=I) (μ:=μ) (σ:=σ) p.1 0 p.2.cells.length [p.2] 0 0 (hG p h1)
theorem Qsh {n:Nat} {Gl:qbd} (hG:∀p∈Gl,Qe5 w I p.1 0 p.2.cells.length [p.2]) {env:Env} {a:Act} (h:qbz n w I μ σ env a) (x:Operand):qbg w I μ σ (a.eval x) (evO Gl env x):=by
 cases x with
 | tmp t=>exact h.slot t
 | const v=>exact qkd v
 | global g=>exact Qjb Gl hG g
 | func f=>exact .fn f [] [] rfl (fun i v x hv=>by simp at hv)
theorem Qok {v:Value} {x:AV} (h:qbg w I μ σ v x) (hg:x.vg=true):qbg w I μ σ v x.un:=by
 cases h with
 | iff g _ x h1 h2=>exact h1 hg
 | mapr _ id hid h=>exact .mapr _ id hid h
 | anyb b=>exact .anyb b
 | undef=>exact .undef _
 | d _ _ h=>exact .d _ _ h
 | nils=>exact .nils
 | agg vs cs hl hone h=>exact .agg vs cs hl hone h
 | ptr _ id off hid h=>exact .ptr _ id off hid h
 | eptr b o es xs i off h=>exact .eptr b o es xs i off h
 | aptr _ id i off hid h=>exact .aptr _ id i off hid h
 | osl _ id off len hid h=>exact .osl _ id off len hid h
 | rsl _ id len hid h=>exact .rsl _ id len hid h
 | fn f vs caps hl h=>exact .fn f vs caps hl h
 | tup vs cs hl h=>exact .tup vs cs hl h
theorem qf7 {t:TypeId} {g:Bool} (h:qbm P t=some g):(isAgg t).run P w=.ok g w:=by
 unfold qbm at h
 unfold isAgg underlying
 cases hu:P.underlying t with
 | none=>rw[hu] at h;cases h
 | some d=>
  rw[hu] at h
  cases d<;>simp at h<;>subst h<;>simp[hu]
theorem qcu {t:TypeId} {n:Nat} (h:tsz P t=some n):(sizeOf t).run P w=.ok n w:=by
 unfold tsz at h
 unfold sizeOf typeInfo
 cases hi:P.info? t with
 | none=>rw[hi] at h;cases h
 | some i=>rw[hi] at h;simp at h;subst h;simp[hi]
theorem qg1 {t:TypeId} {z:Value} (h:qbs P t=some z):(zeroValue t).run P w=.ok z w:=by
 unfold qbs at h
 unfold zeroValue typeInfo
 cases hi:P.info? t with
 | none=>rw[hi] at h;cases h
 | some i=>rw[hi] at h;simp at h;simp[hi,h]
theorem qe9 (b o j:Nat):(⟨b,o,none⟩:Addr).add j=⟨b,o+j,none⟩:=by
 unfold Addr.add;split
 ·subst_vars;rfl
 ·rfl
theorem qi0 {t:TypeId} {b o:Nat} (h1:qbm P t=some true) (cs:List Value) (h2:tsz P t=some cs.length) (h:∀j v,cs[j]? = some v→w.cell? ⟨b,o+j,none⟩=some v) :
  (loadVar t ⟨b,o,none⟩).run P w=.ok (.agg cs.toArray) w:=by
 unfold loadVar
 simp only[Sem.run_bind,qf7 h1,Result.andThen_ok,if_true,qcu h2]
 rw[run_loadCells_list w _ cs (fun j v hv=>by rw[qe9];exact h j v hv)]
 rfl
theorem qiz {t:TypeId} {a:Addr} {v:Value} (h1:qbm P t=some false) (h:w.cell? a=some v):(loadVar t a).run P w=.ok v w:=by
 unfold loadVar
 simp only[Sem.run_bind,qf7 h1,Result.andThen_ok]
 simp[h]
theorem D.cells_of_not_agg {x:D} (h:x.isAgg=false):x.cells=[x]:=by cases x<;>simp_all [D.isAgg,D.cells]
theorem D.agg_of_isAgg {x:D} (h:x.isAgg=true):x=.agg x.cells:=by cases x<;>simp_all [D.isAgg,D.cells]
theorem D.one_of_not_agg {x:D} (h:x.isAgg=false):x.one=true:=by cases x<;>simp_all [D.isAgg,D.one]
theorem qdk.flat {v:Value} {x:D} (h:qdk w I v x):x.flat:=by
 cases h<;>intro c hc<;>simp[D.cells] at hc<;>first|(subst hc;rfl)|skip
 rename_i h _
 exact h c hc
theorem qdk.oneCell {v:Value} {x:D} (h:qdk w I v x) (h1:x.one=true):v.oneCell'=true:=by
 cases h<;>simp_all [D.one,Value.oneCell']
 rename_i h
 cases v<;>simp_all [qr0]
theorem q5k {t:TypeId} {g:Bool} {n N off b B:Nat} {x:D} (hk:qbm P t=some g) (hs:tsz P t=some n) (hN:x.cells.length=N) (hf:x.flat)
  (hc:∀(j:Nat) (y:D),x.cells[j]? = some y→∃v,w.cell? ⟨b,B+j,none⟩=some v∧qdk w I v y) (ho:qm8 N off n g x.isAgg) :
  ∃u,(loadVar t ⟨b,B+off,none⟩).run P w=.ok u w∧qdk w I u (x.partD N off n g):=by
 obtain⟨h1,h2⟩:=ho
 have hget:∀j,j<n→∃v y,x.cells[off+j]? = some y∧w.cell? ⟨b,B+off+j,none⟩=some v∧qdk w I v y:=fun j hj=>by
  have hlt:off+j<x.cells.length:=by omega
  obtain⟨v,hv,hr⟩:=hc (off+j) _ (List.getElem?_eq_getElem hlt)
  exact⟨v,_,List.getElem?_eq_getElem hlt,by rw[Nat.add_assoc];exact hv,hr⟩
 cases g with
 | true=>
  let cs:List Value:=(List.range n).map fun j=>(w.cell? ⟨b,B+off+j,none⟩).getD Go.undef
  have hlen:cs.length=n:=by simp[cs]
  have hrun:=qi0 (P:=P) (w:=w) (t:=t) (b:=b) (o:=B+off) hk cs (by rw[hlen];exact hs) (fun j v hv=>by
   simp only[cs,List.getElem?_map] at hv
   rcases Nat.lt_or_ge j n with hj|hj
   ·obtain⟨v',y,_,hv',_⟩:=hget j hj
    simp[hj,hv'] at hv
    subst hv;exact hv'
   ·simp[hj] at hv)
  refine⟨_,hrun,?_⟩
  have key:qdk w I (.agg cs.toArray) (x.sub off n):=by
   refine .agg cs ((x.cells.drop off).take n) (by simp[hlen];omega) (fun c hc=>hf c (List.mem_of_mem_drop (List.mem_of_mem_take hc))) fun i v y hv hy=>?_
   rcases Nat.lt_or_ge i n with hi|hi
   ·obtain⟨v',y',hy',hv',hr⟩:=hget i hi
    rw[List.getElem?_take_of_lt hi,List.getElem?_drop,hy'] at hy
    simp only[cs,List.getElem?_map] at hv
    simp[hi,hv'] at hv
    simp at hy
    subst hv;subst hy;exact hr
   ·rw[List.getElem?_eq_none (by simp[hlen];omega)] at hv;cases hv
  unfold D.partD
  split
  ·rename_i he
   rw[if_pos he] at h2
   have:x.sub off n=x:=by
    obtain⟨rfl,rfl⟩:=he
    unfold D.sub
    rw[List.drop_zero,List.take_of_length_le (by omega)]
    exact(D.agg_of_isAgg h2).symm
   rwa [this] at key
  ·simpa using key
 | false=>
  have hn:n=1:=by
   split at h2
   ·rename_i he
    have:=D.cells_of_not_agg h2
    rw[this] at hN
    simp at hN
    omega
   ·simpa using h2.2
  subst hn
  obtain⟨v,y,hy,hv,hr⟩:=hget 0 (by omega)
  refine⟨v,qiz hk hv,?_⟩
  unfold D.partD
  split
  ·rename_i he
   rw[if_pos he] at h2
   obtain⟨rfl,rfl⟩:=he
   rw[D.cells_of_not_agg h2] at hy
   simp at hy
   subst hy;exact hr
  ·simp only[Bool.false_eq_true,if_false]
   unfold D.cell
   rw[List.getD_eq_getElem?_getD]
   rw[Nat.add_zero] at hy
   rw[hy];exact hr
theorem AV.cellAt_of_not_agg {v:AV} (h:v.isAgg=false):v.cellAt 0=v:=by
 cases v<;>simp_all [AV.isAgg,AV.cellAt]
 rename_i x
 unfold D.cell;rw[D.cells_of_not_agg h];rfl
theorem AV.ncells_of_not_agg {v:AV} (h:v.isAgg=false):v.ncells=1:=by
 cases v<;>simp_all [AV.isAgg,AV.ncells]
 rename_i x
 rw[D.cells_of_not_agg h];rfl
theorem Qdx {t:TypeId} {g:Bool} {n N off b B:Nat} {v:AV} (hk:qbm P t=some g) (hs:tsz P t=some n) (hN:v.ncells=N)
  (hc:∀j,j<N→(v.cellAt j).one=true∧∃u,w.cell? ⟨b,B+j,none⟩=some u∧qbg w I μ σ u (v.cellAt j)) (ho:qm8 N off n g v.isAgg) :
  ∃u,(loadVar t ⟨b,B+off,none⟩).run P w=.ok u w∧qbg w I μ σ u (v.partV N off n g):=by
 obtain⟨h1,h2⟩:=ho
 have hget:∀j,j<n→(v.cellAt (off+j)).one=true∧∃u,w.cell? ⟨b,B+off+j,none⟩=some u∧qbg w I μ σ u (v.cellAt (off+j)):=fun j hj=>by
  obtain⟨h3,u,hu,hr⟩:=hc (off+j) (by omega)
  exact⟨h3,u,by rw[Nat.add_assoc];exact hu,hr⟩
 cases g with
 | true=>
  let cs:List Value:=(List.range n).map fun j=>(w.cell? ⟨b,B+off+j,none⟩).getD Go.undef
  have hlen:cs.length=n:=by simp[cs]
  have hcs:∀i u,cs[i]? = some u→i<n∧w.cell? ⟨b,B+off+i,none⟩=some u:=fun i u hu=>by
   simp only[cs,List.getElem?_map] at hu
   rcases Nat.lt_or_ge i n with hi|hi
   ·obtain⟨_,u',hu',_⟩:=hget i hi
    simp[hi,hu'] at hu
    subst hu;exact⟨hi,hu'⟩
   ·simp[hi] at hu
  have hrun:=qi0 (P:=P) (w:=w) (t:=t) (b:=b) (o:=B+off) hk cs (by rw[hlen];exact hs) (fun j u hu=>(hcs j u hu).2)
  refine⟨_,hrun,?_⟩
  have rep:∀i u,cs[i]? = some u→qbg w I μ σ u (v.cellAt (off+i)):=fun i u hu=>by
   obtain⟨hi,hu'⟩:=hcs i u hu
   obtain⟨_,u2,hu2,hr⟩:=hget i hi
   rw[hu2] at hu'
   simp at hu'
   subst hu';exact hr
  cases v with
  | d x=>
   have hx:∀j,j<N→(x.cell j).one=true:=fun j hj=>(hc j hj).1
   have hxl:x.cells.length=N:=hN
   have key:qdk w I (.agg cs.toArray) (x.sub off n):=by
    refine .agg cs ((x.cells.drop off).take n) (by simp[hlen];omega) (fun c hc'=>?_) fun i u y hu hy=>?_
    ·obtain⟨k,hk'⟩:=List.getElem?_of_mem (List.mem_of_mem_drop (List.mem_of_mem_take hc'))
     have hkl:k<x.cells.length:=by
      rcases Nat.lt_or_ge k x.cells.length with h'|h'
      ·exact h'
      ·rw[List.getElem?_eq_none h'] at hk';cases hk'
     have:=hx k (by omega)
     unfold D.cell at this
     rw[List.getD_eq_getElem?_getD,hk'] at this
     exact this
    ·have hi:=(hcs i u hu).1
     have:=(rep i u hu).inv_d
     rw[List.getElem?_take_of_lt hi,List.getElem?_drop] at hy
     unfold D.cell at this
     rw[List.getD_eq_getElem?_getD,hy] at this
     exact this
   show qbg w I μ σ _ (AV.partV _ _ _ _ _)
   unfold AV.partV
   split
   ·rename_i he
    rw[if_pos he] at h2
    obtain⟨rfl,rfl⟩:=he
    have:x.sub 0 n=x:=by
     unfold D.sub
     rw[List.drop_zero,List.take_of_length_le (by omega)]
     exact(D.agg_of_isAgg h2).symm
    rw[this] at key
    exact .d _ _ key
   ·simp only[if_true,AV.subV]
    exact .d _ _ key
  | agg l=>
   have hll:l.length=N:=hN
   have key:qbg w I μ σ (.agg cs.toArray) (qgo ((l.drop off).take n)):=by
    refine qjn (by simp[hlen];omega) (fun c hc'=>?_) fun i u y hu hy=>?_
    ·obtain⟨k,hk'⟩:=List.getElem?_of_mem (List.mem_of_mem_drop (List.mem_of_mem_take hc'))
     have hkl:k<l.length:=by
      rcases Nat.lt_or_ge k l.length with h'|h'
      ·exact h'
      ·rw[List.getElem?_eq_none h'] at hk';cases hk'
     have:=(hc k (by omega)).1
     simp only[AV.cellAt,List.getD_eq_getElem?_getD,hk',Option.getD_some] at this
     exact this
    ·have hi:=(hcs i u hu).1
     have:=rep i u hu
     rw[List.getElem?_take_of_lt hi,List.getElem?_drop] at hy
     simp only[AV.cellAt,List.getD_eq_getElem?_getD,hy,Option.getD_some] at this
     exact this
   unfold AV.partV
   split
   ·rename_i he
    obtain⟨rfl,rfl⟩:=he
    refine .agg cs l (by omega) (fun c hc'=>?_) fun i u y hu hy=>?_
    ·obtain⟨k,hk'⟩:=List.getElem?_of_mem hc'
     have hkl:k<l.length:=by
      rcases Nat.lt_or_ge k l.length with h'|h'
      ·exact h'
      ·rw[List.getElem?_eq_none h'] at hk';cases hk'
     have:=(hc k (by omega)).1
     simp only[AV.cellAt,List.getD_eq_getElem?_getD,hk',Option.getD_some] at this
     exact this
    ·have:=rep i u hu
     simp only[AV.cellAt,List.getD_eq_getElem?_getD,Nat.zero_add,hy,Option.getD_some] at this
     exact this
   ·simp only[if_true,AV.subV]
    exact key
  | _=>
   exfalso
   split at h2<;>simp[AV.isAgg] at h2
 | false=>
  have hn:n=1:=by
   split at h2
   ·rename_i he
    have:=AV.ncells_of_not_agg h2
    omega
   ·simpa using h2.2
  subst hn
  obtain⟨_,u,hu,hr⟩:=hget 0 (by omega)
  refine⟨u,qiz hk hu,?_⟩
  unfold AV.partV
  split
  ·rename_i he
   rw[if_pos he] at h2
   obtain⟨rfl,rfl⟩:=he
   rw[AV.cellAt_of_not_agg h2] at hr
   exact hr
  ·simpa using hr
end Go.AM


namespace Go.AM
variable {P:Program} {w:World} {I:Im} {μ:Pos} {σ:Sto}
theorem qdz (σ:Sto) (id i:Nat):qae (freeze σ id) i=if id=i then(qae σ i).frozen else qae σ i:=by
 unfold freeze
 by_cases e:id=i
 ·subst e
  rw[if_pos rfl]
  rcases Nat.lt_or_ge id σ.length with h|h
  ·rw[qbl h]
  ·rw[List.set_eq_of_length_le h]
   unfold qae
   rw[List.getD_eq_getElem?_getD,List.getElem?_eq_none h];rfl
 ·rw[if_neg e,qbq e]
theorem Blk.frozen_xs (B:Blk):B.frozen.xs=B.xs∧B.frozen.isArr=B.isArr∧B.frozen.es=B.es:=by cases B<;>exact⟨rfl,rfl,rfl⟩
theorem Blk.frozen_own (B:Blk) (h:B.isArr=true):B.frozen.own=false:=by cases B<;>simp_all [Blk.frozen,Blk.own,Blk.isArr]
theorem Blk.frozen_own' (B:Blk) (h:B.own=false):B.frozen.own=false:=by cases B<;>simp_all [Blk.frozen,Blk.own]
theorem qes (h:Rel w I μ σ) (l:List Nat):∃I',Rel w I' μ (freezeL σ l)∧qcn σ.length w I μ σ w I' μ (freezeL σ l)∧(freezeL σ l).length=σ.length ∧
  (∀id,id∈l→(qae σ id).isArr=true→(qae (freezeL σ l) id).own=false) ∧
  (∀id,(qae (freezeL σ l) id).xs=(qae σ id).xs∧(qae (freezeL σ l) id).isArr=(qae σ id).isArr) ∧
  (∀id,(qae σ id).own=false→(qae (freezeL σ l) id).own=false) ∧
  (∀id,id∉l→qae (freezeL σ l) id=qae σ id)∧(∀b,I'.fr b→I.fr b∨∃id o,id∈l∧(qae σ id).own=true∧(qae σ id).isArr=true∧μ id=some (b,o)):=by
 induction l generalizing I σ with
 | nil=>exact⟨I,h,qcn.refl _ _ _ _ (Nat.le_refl _),rfl,(fun _ h=>by cases h),fun _=>⟨rfl,rfl⟩,fun _ h=>h,fun _ _=>rfl,fun _ h=>.inl h⟩
 | cons a l ih=>
  have h1:=h.freeze a
  have k1:qcn σ.length w I μ σ w (Qca I μ σ a) μ (freeze σ a):=qur h a
  have hlen:(freeze σ a).length=σ.length:=by simp[freeze]
  obtain⟨I',r1,r2,r3,r4,r5,r6,r7,r8⟩:=ih h1
  rw[hlen] at r2 r3
  refine⟨I',r1,k1.trans r2,r3,fun id hid hz=>?_,fun id=>?_,fun id ho=>?_,fun id hid=>?_,fun b hb=>?_⟩
  ·by_cases e:a=id
   ·subst e
    refine r6 a ?_
    rw[qdz,if_pos rfl]
    exact Blk.frozen_own _ hz
   ·cases hid with
    | head=>exact absurd rfl e
    | tail _ hid=>
     refine r4 id hid ?_
     rw[qdz,if_neg e];exact hz
  ·obtain⟨e1,e2⟩:=r5 id
   rw[qdz] at e1 e2
   split at e1<;>rename_i hc
   ·rw[if_pos hc] at e2
    exact⟨e1.trans (Blk.frozen_xs _).1,e2.trans (Blk.frozen_xs _).2.1⟩
   ·rw[if_neg hc] at e2;exact⟨e1,e2⟩
  ·refine r6 id ?_
   rw[qdz]
   split
   ·exact Blk.frozen_own' _ ho
   ·exact ho
  ·have:=r7 id (fun hm=>hid (List.mem_cons_of_mem _ hm))
   show qae (freezeL (freeze σ a) l) id=_
   rw[this,qdz,if_neg (fun e=>hid (by rw[e];exact List.mem_cons_self))]
  ·rcases r8 b hb with hI|⟨id,o,hid,ho,hz,hm⟩
   ·rcases hI with hI|⟨h2,h3,o,h4⟩
    ·exact .inl hI
    ·exact .inr ⟨a,o,List.mem_cons_self,h3,h2,h4⟩
   ·refine .inr ⟨id,o,List.mem_cons_of_mem _ hid,?_,?_,hm⟩
    ·rw[qdz] at ho
     split at ho
     ·cases hB:qae σ id<;>rw[hB] at ho<;>simp_all [Blk.frozen,Blk.own]
     ·exact ho
    ·rw[qdz] at hz
     split at hz
     ·rw[(Blk.frozen_xs _).2.1] at hz;exact hz
     ·exact hz
theorem qq5 {σ':Sto} (h:Rel w I μ σ') {v:Value} {u:AV} (hv:qbg w I μ σ' v u) (hd:q56 σ' u=true) (hf:∀id∈q7b u,(qae σ' id).own=false):qdk w I v (q9v σ' u):=by
 cases u with
 | d x=>exact hv.inv_d
 | nils=>cases hv;exact .nil none 0
 | osl id off len=>exact hv.oslData h hd (hf id (by simp[q7b]))
 | _=>simp[q56] at hd
theorem Qla (σ:Sto) (u:AV) (h1:u.one=true):(q9v σ u).one=true:=by
 cases u<;>simp_all [q9v,AV.one,D.one,default]
theorem qlz {σ':Sto} (h:Rel w I μ σ') {v:Value} {u:AV} (hv:qbg w I μ σ' v u) (hd:u.isD σ'=true) (hf:∀id∈u.refs,(qae σ' id).own=false):qdk w I v (u.toD σ'):=by
 cases u with
 | agg cs=>
  cases hv with
  | agg vs _ hl hone hh=>
   refine .agg vs (cs.map (q9v σ')) (by simpa using hl) (fun c hc=>?_) fun i v x hv hx=>?_
   ·obtain⟨u,hu,rfl⟩:=List.mem_map.1 hc
    exact Qla _ _ (hone u hu)
   ·rw[List.getElem?_map] at hx
    cases hc:cs[i]? with
    | none=>rw[hc] at hx;cases hx
    | some c=>
     rw[hc] at hx
     simp at hx
     subst hx
     have hm:=List.mem_of_getElem? hc
     refine qq5 h (hh i v c hv hc) (List.all_eq_true.1 hd c hm) fun id hid=>hf id ?_
     exact List.mem_flatMap.2 ⟨c,hm,hid⟩
 | d x=>exact qq5 h hv hd hf
 | nils=>exact qq5 h hv hd hf
 | osl id off len=>exact qq5 h hv hd hf
 | _=>simp[AV.isD,q56] at hd
theorem qng {σ σ':Sto} (e:∀id,(qae σ' id).isArr=(qae σ id).isArr) (u:AV):u.isD σ'=u.isD σ:=by
 have:q56 σ'=q56 σ:=by
  funext u;cases u<;>simp[q56,e]
 cases u<;>simp[AV.isD,this]
theorem ql0 {σ σ':Sto} (e:∀id,(qae σ' id).xs=(qae σ id).xs) (u:AV):u.toD σ'=u.toD σ:=by
 have:q9v σ'=q9v σ:=by
  funext u;cases u<;>simp[q9v,e]
 cases u<;>simp[AV.toD,this]
theorem qn1 {u:AV} (hd:u.isD σ=true):∀id∈u.refs,(qae σ id).isArr=true:=by
 have one:∀u:AV,q56 σ u=true→∀id∈q7b u,(qae σ id).isArr=true:=fun u hu id hid=>by
  cases u<;>simp[q7b] at hid
  subst hid;exact hu
 intro id hid
 cases u with
 | agg cs=>
  obtain⟨c,hc,hid⟩:=List.mem_flatMap.1 hid
  exact one c (List.all_eq_true.1 hd c hc) id hid
 | osl a b c=>exact one (.osl a b c) hd id hid
 | _=>simp[AV.refs,q7b] at hid
theorem q63 (h:Rel w I μ σ) {v:Value} {u:AV} (hv:qbg w I μ σ v u) (hd:u.isD σ=true) :
  ∃I',Rel w I' μ (freezeL σ u.refs)∧qcn σ.length w I μ σ w I' μ (freezeL σ u.refs)∧qdk w I' v (u.toD σ)∧(freezeL σ u.refs).length=σ.length ∧
   (∀id,id∉u.refs→qae (freezeL σ u.refs) id=qae σ id) ∧
   (∀b,I'.fr b→I.fr b∨∃id o,id∈u.refs∧(qae σ id).own=true∧(qae σ id).isArr=true∧μ id=some (b,o)):=by
 obtain⟨I',r1,r2,r3,r4,r5,r6,r7,r8⟩:=qes h u.refs
 refine⟨I',r1,r2,?_,r3,r7,r8⟩
 have:=qlz r1 (hv.keep r2) (by rw[qng (fun id=>(r5 id).2)];exact hd) (fun id hid=>r4 id hid (qn1 hd id hid))
 rwa [ql0 (fun id=>(r5 id).1)] at this
theorem qiw {b o:Nat} {vs:List Value} (hp:qdh w b) (hn:o+vs.length≤qcf w b) (h1:∀v∈vs,v.oneCell'=true) :
  ∃w',(storeCells ⟨b,o,none⟩ vs).run P w=.ok () w'∧qfk b w w'∧∀j,w'.cell? ⟨b,j,none⟩=if o≤j∧j<o+vs.length then vs[j-o]? else w.cell? ⟨b,j,none⟩:=by
 obtain⟨c,t,hc⟩:=hp
 have hsz:qcf w b=c.size:=by unfold qcf;rw[hc]
 rw[hsz] at hn
 refine⟨_,run_storeCells_at P b o t vs 0 c w hc (by simpa using hn) h1,?_,fun j=>?_⟩
 ·have hh:=setRow_heap w b c (c.toList.take (o+0)++vs++c.toList.drop (o+0+vs.length)).toArray t (0,0) hc
  refine⟨rfl,rfl,rfl,by simp,fun b' hb=>setRow_other w b b' _ hb,?_,fun _=>⟨_,_,hh⟩⟩
  rw[hsz]
  unfold qcf
  rw[hh]
  simp
  omega
 ·have hh:=setRow_heap w b c (c.toList.take (o+0)++vs++c.toList.drop (o+0+vs.length)).toArray t (0,0) hc
  have e1:(w.setRow b (c.toList.take (o+0)++vs++c.toList.drop (o+0+vs.length)).toArray).cell? ⟨b,j,none⟩=(c.toList.take o++vs++c.toList.drop (o+vs.length))[j]? := by
   unfold World.cell?
   rw[hh]
   simp
  have e2:w.cell? ⟨b,j,none⟩=c.toList[j]? := by
   unfold World.cell?
   rw[hc]
   simp
  rw[e1,e2,List.append_assoc]
  by_cases hj:j<o
  ·rw[if_neg (by omega),List.getElem?_append_left (by simp;omega),List.getElem?_take_of_lt hj]
  ·have hlo:(c.toList.take o).length=o:=by simp;omega
   rw[List.getElem?_append_right (by omega),hlo]
   by_cases hj2:j<o+vs.length
   ·rw[if_pos ⟨by omega,hj2⟩,List.getElem?_append_left (by omega)]
   ·rw[if_neg (by omega),List.getElem?_append_right (by omega),List.getElem?_drop]
    congr 1
    omega
theorem qjy {v:Value} {u:AV} (hv:qbg w I μ σ v u) (hs:u.storable=true) :
  ∃vs:List Value,v.cells=vs.toArray∧vs.length=u.ncells∧∀j c,vs[j]? = some c→qbg w I μ σ c (u.cellAt j)∧(u.cellAt j).one=true∧c.oneCell'=true:=by
 have single:∀(v:Value) (u:AV),u.one=true→u.isAgg=false→v.oneCell'=true→qbg w I μ σ v u→∃vs:List Value,v.cells=vs.toArray∧vs.length=u.ncells∧∀j c,vs[j]? = some c→qbg w I μ σ c (u.cellAt j)∧(u.cellAt j).one=true∧c.oneCell'=true:=by
  intro v u h1 h2 h3 h4
  refine⟨[v],?_,by rw[AV.ncells_of_not_agg h2];rfl,fun j c hc=>?_⟩
  ·cases v<;>simp_all [Value.oneCell',Value.cells]
  ·cases j with
   | zero=>
    simp at hc
    subst hc
    rw[AV.cellAt_of_not_agg h2]
    exact⟨h4,h1,h3⟩
   | succ j=>simp at hc
 cases u with
 | undef=>simp[AV.storable] at hs
 | tup _=>simp[AV.storable] at hs
 | iff _ _=>simp[AV.storable] at hs
 | anyb=>simp[AV.storable] at hs
 | agg cs=>
  cases hv with
  | agg vs _ hl hone hh=>
   refine⟨vs,rfl,hl,fun j c hc=>?_⟩
   have hjl:j<cs.length:=by
    rcases Nat.lt_or_ge j vs.length with h'|h'
    ·omega
    ·rw[List.getElem?_eq_none h'] at hc;cases hc
   have hx:cs[j]? = some cs[j]:=List.getElem?_eq_getElem hjl
   have r:=hh j c _ hc hx
   have e:(AV.agg cs).cellAt j=cs[j]:=by simp[AV.cellAt,List.getD_eq_getElem?_getD,hx]
   rw[e]
   have h1:=hone cs[j] (List.getElem_mem hjl)
   refine⟨r,h1,?_⟩
   generalize cs[j]=q at *
   cases r<;>simp_all [AV.one,Value.oneCell']
   ·rename_i h;exact h.oneCell h1
   ·rename_i h;obtain⟨_,_,_,rfl⟩:=h;rfl
   ·rename_i h;obtain⟨_,_,_,_,rfl⟩:=h;rfl
   ·rename_i h;rcases h with⟨_,_,rfl⟩|⟨_,_,_,_,_,_,rfl⟩<;>rfl
   ·rename_i h;obtain⟨_,_,_,_,_,rfl⟩:=h;rfl
   ·rename_i h;obtain⟨_,_,rfl⟩:=h;rfl
 | d x=>
  cases hx:x.isAgg with
  | false=>exact single v (.d x) (D.one_of_not_agg hx) hx (hv.inv_d.oneCell (D.one_of_not_agg hx)) hv
  | true=>
   have e:=D.agg_of_isAgg hx
   have hr:=hv.inv_d
   rw[e] at hr
   cases hr with
   | agg vs _ hl hone hh=>
    refine⟨vs,rfl,hl,fun j c hc=>?_⟩
    have hjl:j<x.cells.length:=by
     rcases Nat.lt_or_ge j vs.length with h'|h'
     ·omega
     ·rw[List.getElem?_eq_none h'] at hc;cases hc
    have hy:x.cells[j]? = some x.cells[j]:=List.getElem?_eq_getElem hjl
    have r:=hh j c _ hc hy
    have e2:(AV.d x).cellAt j=.d x.cells[j]:=by simp[AV.cellAt,D.cell,List.getD_eq_getElem?_getD,hy]
    rw[e2]
    have h1:=hone x.cells[j] (List.getElem_mem hjl)
    exact⟨.d _ _ r,h1,r.oneCell h1⟩
 | nils=>exact single v .nils rfl rfl (by cases hv;rfl) hv
 | ptr id off=>exact single v _ rfl rfl (by cases hv;rename_i h;obtain⟨_,_,_,rfl⟩:=h;rfl) hv
 | eptr es xs i off=>exact single v _ rfl rfl (by cases hv;rfl) hv
 | aptr id i off=>exact single v _ rfl rfl (by cases hv;rename_i h;obtain⟨_,_,_,_,rfl⟩:=h;rfl) hv
 | osl id off len=>exact single v _ rfl rfl (by cases hv;rename_i h;rcases h with⟨_,_,rfl⟩|⟨_,_,_,_,_,_,rfl⟩<;>rfl) hv
 | rsl id len=>exact single v _ rfl rfl (by cases hv;rename_i h;obtain⟨_,_,_,_,_,rfl⟩:=h;rfl) hv
 | mapr id=>exact single v _ rfl rfl (by cases hv;rename_i h;obtain⟨_,_,rfl⟩:=h;rfl) hv
 | fn f caps=>exact single v _ rfl rfl (by cases hv;rfl) hv
end Go.AM


namespace Go.AM
variable {P:Program} {w:World} {I:Im} {μ:Pos} {σ:Sto}
theorem Rel.boxOf (h:Rel w I μ σ) {id:Nat} (hb:(qae σ id).isBox=true):∃n v b base,qae σ id=.box n v∧id<σ.length∧qcb σ id∧(qae σ id).own=true∧μ id=some (b,base)∧qdh w b∧base+n≤qcf w b∧v.ncells=n ∧
  ∀j,j<n→(v.cellAt j).one=true∧∃u,w.cell? ⟨b,base+j,none⟩=some u∧qbg w I μ σ u (v.cellAt j):=by
 cases hB:qae σ id with
 | box n v=>
  have ho:(qae σ id).own=true:=by rw[hB];rfl
  have hid:=qbc ho
  have:=h.blk id hid
  rw[hB] at this
  obtain⟨b,base,h1,_,h3,h4,h5,h6⟩:=this
  exact⟨n,v,b,base,rfl,hid,by unfold qcb;rw[hB];rfl,rfl,h1,h3,h4,h5,h6⟩
 | _=>rw[hB] at hb;simp[Blk.isBox] at hb
theorem Rel.arrOf (h:Rel w I μ σ) {id:Nat} (hb:(qae σ id).isArr=true) {i:Nat} (hi:i<(qae σ id).xs.length):∃b base,id<σ.length∧qcb σ id∧μ id=some (b,base) ∧
  (∀x∈(qae σ id).xs,x.cells.length=(qae σ id).es)∧(∀x∈(qae σ id).xs,x.flat) ∧
  (∀(i j:Nat) (x y:D),(qae σ id).xs[i]? = some x→x.cells[j]? = some y→∃v,w.cell? ⟨b,base+i*(qae σ id).es+j,none⟩=some v∧qdk w I v y):=by
 have hal:qcb σ id:=by unfold qcb;cases hB:qae σ id<;>simp_all [Blk.isArr,Blk.isDead]
 have hid:=Qn2 hal
 have hb2:=h.blk id hid
 cases hB:qae σ id with
 | arr es xs=>
  rw[hB] at hb2 hi
  rcases hb2 with⟨_,rfl⟩|⟨b,base,h1,_,_,_,h5,h6,h7⟩
  ·simp[Blk.xs] at hi
  ·exact⟨b,base,hid,hal,h1,h5,h6,h7⟩
 | frz es xs=>
  rw[hB] at hb2 hi
  rcases hb2 with⟨_,rfl⟩|⟨b,base,h1,hs⟩
  ·simp[Blk.xs] at hi
  ·exact⟨b,base,hid,hal,h1,hs.size,hs.flat,hs.cell⟩
 | dead=>rw[hB] at hb;simp[Blk.isArr] at hb
 | box _ _=>rw[hB] at hb;simp[Blk.isArr] at hb
 | map _ _=>rw[hB] at hb;simp[Blk.isArr] at hb
theorem qer {xs:List D} {i:Nat} (h:i<xs.length):xs[i]? = some (xs.getD i default):=by
 rw[List.getD_eq_getElem?_getD,List.getElem?_eq_getElem h];rfl
theorem qek {xs:List D} {i:Nat} (h:i<xs.length):xs.getD i default∈xs:=List.mem_of_getElem? (qer h)
theorem q5l (h:Rel w I μ σ) {t:TypeId} {g:Bool} {n:Nat} (hk:qbm P t=some g) (hs:tsz P t=some n) {v:Value} {p:AV} (hv:qbg w I μ σ v p) (ho:Qdy σ g n p) :
  ∃u,(Instr.loadAt t v).run P w=.ok u w∧qbg w I μ σ u (ldV σ g n p):=by
 cases p with
 | ptr id off=>
  obtain⟨hb,hp⟩:=ho
  obtain⟨N,bv,b,base0,hB,hid,hal,_,hμ,_,_,h5,h6⟩:=h.boxOf hb
  cases hv with
  | ptr _ _ _ _ hh=>
   obtain⟨b',base,h1,rfl⟩:=hh
   have e:=h1 hal
   rw[hμ] at e
   simp only[Option.some.injEq,Prod.mk.injEq] at e
   obtain⟨rfl,rfl⟩:=e
   simp only[ldV,hB,Blk.boxV,Blk.boxN] at hp ⊢
   obtain⟨u,hu,hr⟩:=Qdx (P:=P) (B:=base0) hk hs h5 (fun j hj=>h6 j hj) hp
   refine⟨u,?_,hr⟩
   simp only[Instr.loadAt,Instr.sureAddr,Sem.run_bind,Sem.run_pure,Result.andThen_ok]
   exact hu
 | eptr es xs i off=>
  obtain⟨hi,hp⟩:=ho
  cases hv with
  | eptr b o _ _ _ _ hh=>
   have hx:=qer hi
   obtain⟨u,hu,hr⟩:=q5k (P:=P) (B:=o+i*es) hk hs (hh.size _ (qek hi)) (hh.flat _ (qek hi)) (fun j y hy=>hh.cell i j _ y hx hy) hp
   refine⟨u,?_,.d _ _ hr⟩
   simp only[Instr.loadAt,Instr.sureAddr,Sem.run_bind,Sem.run_pure,Result.andThen_ok]
   exact hu
 | aptr id i off=>
  obtain⟨hb,hi,hp⟩:=ho
  obtain⟨b,base,hid,hal,hμ,h5,h6,h7⟩:=h.arrOf hb hi
  cases hv with
  | aptr _ _ _ _ _ hh=>
   obtain⟨b',base',es,h1,rfl⟩:=hh
   obtain⟨e,e2⟩:=h1 hal
   rw[hμ] at e
   simp only[Option.some.injEq,Prod.mk.injEq] at e
   obtain⟨rfl,rfl⟩:=e
   subst e2
   have hx:=qer hi
   obtain⟨u,hu,hr⟩:=q5k (P:=P) (B:=base+i*(qae σ id).es) hk hs (h5 _ (qek hi)) (h6 _ (qek hi)) (fun j y hy=>h7 i j _ y hx hy) hp
   refine⟨u,?_,.d _ _ hr⟩
   simp only[Instr.loadAt,Instr.sureAddr,Sem.run_bind,Sem.run_pure,Result.andThen_ok]
   exact hu
 | _=>exact ho.elim
theorem qjp (cs:List AV) (j:Nat) (hj:j<cs.length):(qgo cs).cellAt j=cs.getD j .undef:=by
 unfold qgo
 cases hd:q0o cs with
 | none=>rfl
 | some ds=>
  have e:=qnq hd
  subst e
  simp only[List.length_map] at hj
  simp[AV.cellAt,D.cell,D.cells,List.getD_eq_getElem?_getD,List.getElem?_eq_getElem hj]
theorem qjo (cs:List AV):(qgo cs).ncells=cs.length:=by
 unfold qgo
 cases hd:q0o cs with
 | none=>rfl
 | some ds=>
  have e:=qnq hd
  subst e
  simp[AV.ncells,D.cells]
theorem q7g {v u:AV} {N off n j:Nat} (hj:j<N):(Qpu v N off n u).cellAt j=if off≤j∧j<off+n then u.cellAt (j-off) else v.cellAt j:=by
 unfold Qpu
 split
 ·rename_i he
  obtain⟨rfl,rfl⟩:=he
  rw[if_pos ⟨by omega,by omega⟩];rfl
 ·rw[qjp _ _ (by simpa using hj)]
  simp[List.getD_eq_getElem?_getD,hj]
theorem q7f {v u:AV} {N off n:Nat} (hu:u.ncells=n):(Qpu v N off n u).ncells=N:=by
 unfold Qpu
 split
 ·rename_i he;rw[hu];exact he.2
 ·rw[qjo];simp
theorem qr1 {t:TypeId} {b o n:Nat} {v:Value} {vs:List Value} {w':World} (hs:tsz P t=some n) (hc:v.cells=vs.toArray) (hl:vs.length=n) (hr:(storeCells ⟨b,o,none⟩ vs).run P w=.ok () w') :
  (Instr.storeAt t (.pointer (some ⟨b,o,none⟩)) v).run P w=.ok () w':=by
 simp only[Instr.storeAt,Instr.sureAddr,storeVar,Sem.run_bind,Sem.run_pure,Result.andThen_ok,qcu hs,hc,List.size_toArray,hl]
 simpa only[ne_eq,not_true_eq_false,if_false] using hr
theorem qkf {v:Value} {x:D} (hv:qdk w I v x):∃vs:List Value,v.cells=vs.toArray∧vs.length=x.cells.length∧∀j c,vs[j]? = some c→qdk w I c (x.cell j)∧c.oneCell'=true:=by
 obtain⟨vs,h1,h2,h3⟩:=qjy (qbg.d (μ:=fun _=>none) (σ:=[]) v x hv) rfl
 exact⟨vs,h1,h2,fun j c hc=>⟨(h3 j c hc).1.inv_d,(h3 j c hc).2.2⟩⟩
theorem qlj {x u:D} {N off n:Nat} (hu:u.cells.length=n):(x.putAt N off n u).cells.length=N:=by
 unfold D.putAt
 split
 ·rename_i he;rw[hu];exact he.2
 ·simp[D.cells]
theorem qzq {x u:D} {N off n j:Nat} (hj:j<N):(x.putAt N off n u).cell j=if off≤j∧j<off+n then u.cell (j-off) else x.cell j:=by
 unfold D.putAt
 split
 ·rename_i he
  obtain⟨rfl,rfl⟩:=he
  rw[if_pos ⟨by omega,by omega⟩];rfl
 ·simp[D.cell,D.cells,List.getD_eq_getElem?_getD,hj]
theorem D.cell_of {x y:D} {j:Nat} (h:x.cells[j]? = some y):x.cell j=y:=by unfold D.cell;rw[List.getD_eq_getElem?_getD,h];rfl
theorem D.one_cell {x:D} (h:x.flat) {j:Nat} (hj:j<x.cells.length):(x.cell j).one=true:=by
 have e:x.cells[j]? = some x.cells[j]:=List.getElem?_eq_getElem hj
 rw[D.cell_of e];exact h _ (List.getElem_mem hj)
theorem Qds {x u:D} {N off n:Nat} (hx:x.flat) (hu:u.flat) (hxl:x.cells.length=N) (hul:u.cells.length=n):(x.putAt N off n u).flat:=by
 intro c hc
 obtain⟨j,hj⟩:=List.getElem?_of_mem hc
 have hjl:j<N:=by
  rw[←qlj (x:=x) (N:=N) (off:=off) hul]
  rcases Nat.lt_or_ge j (x.putAt N off n u).cells.length with h'|h'
  ·exact h'
  ·rw[List.getElem?_eq_none h'] at hj;cases hj
 rw[←D.cell_of hj,qzq hjl]
 split
 ·exact D.one_cell hu (by omega)
 ·exact D.one_cell hx (by omega)
theorem Qdf (h:Rel w I μ σ) {t:TypeId} {n:Nat} (hs:tsz P t=some n) {v q:Value} {u p:AV} (hv:qbg w I μ σ v u) (hq:qbg w I μ σ q p) (ho:Qua σ n u p) :
  ∃w' I',(Instr.storeAt t q v).run P w=.ok () w'∧Rel w' I' μ (stS σ n u p)∧qcn σ.length w I μ σ w' I' μ (stS σ n u p):=by
 cases p with
 | ptr id off=>
  obtain⟨hb,hp,hst,hnc⟩:=ho
  obtain⟨N,bv,b,base0,hB,hid,hal,hown,hμ,hpl,h4,h5,h6⟩:=h.boxOf hb
  cases hq with
  | ptr _ _ _ _ hh=>
   obtain⟨b',base,h1,rfl⟩:=hh
   have e:=h1 hal
   rw[hμ] at e
   simp only[Option.some.injEq,Prod.mk.injEq] at e
   obtain⟨rfl,rfl⟩:=e
   simp only[stS,hB,Blk.boxV,Blk.boxN] at hp ⊢
   obtain⟨vs,hc1,hc2,hc3⟩:=qjy hv hst
   rw[hnc] at hc2
   obtain⟨w',hr,ww,hw⟩:=qiw (P:=P) (w:=w) (b:=b) (o:=base0+off) (vs:=vs) hpl (by omega) (fun c hc=>by
    obtain⟨j,hj⟩:=List.getElem?_of_mem hc
    exact(hc3 j c hj).2.2)
   have k:=qka h hown hμ ww (.box N (Qpu bv N off n u)) (by rw[hB];rfl) (by rw[hB];rfl) (by rw[hB];exact Nat.le_refl _)
   refine⟨w',I,qr1 hs hc1 hc2 hr,?_,k⟩
   refine h.upd hown hμ ww _ (by rw[hB];rfl) (by rw[hB];rfl) (by rw[hB];exact Nat.le_refl _) ⟨b,base0,hμ,(qjk h hid hown hμ).2,ww.plain hpl,by rw[ww.bsize];exact h4,q7f hnc,fun j hj=>?_⟩
   rw[q7g hj,hw (base0+j)]
   by_cases hin:off≤j∧j<off+n
   ·have hlt:j-off<vs.length:=by omega
    obtain⟨r1,r2,_⟩:=hc3 (j-off) _ (List.getElem?_eq_getElem hlt)
    rw[if_pos hin,if_pos ⟨by omega,by omega⟩]
    exact⟨r2,_,by rw[←List.getElem?_eq_getElem hlt];congr 1;omega,r1.keep k⟩
   ·rw[if_neg hin,if_neg (by omega)]
    obtain⟨r1,u',hu',r2⟩:=h6 j hj
    exact⟨r1,u',hu',r2.keep k⟩
 | aptr id i off=>
  obtain⟨hb,hi,hp,hd,hnc,hnr⟩:=ho
  obtain⟨I',r1,r2,r3,r4,r5,r6⟩:=q63 h hv hd
  cases hB:qae σ id with
  | arr es xs=>
   have hB':qae (freezeL σ u.refs) id=.arr es xs:=by rw[r5 id hnr,hB]
   rw[hB] at hi hp
   simp only[Blk.xs,Blk.es] at hi hp
   have hown:(qae (freezeL σ u.refs) id).own=true:=by rw[hB'];rfl
   have hid:=qbc hown
   have hb2:=r1.blk id hid
   have hal:qcb σ id:=by unfold qcb;rw[hB];rfl
   rw[hB'] at hb2
   rcases hb2 with⟨_,rfl⟩|⟨b,base,hμ,hnI,hpl,hsz,h5,h6,h7⟩
   ·simp at hi
   ·cases hq with
    | aptr _ _ _ _ _ hh=>
     obtain⟨b',base',es',h1,rfl⟩:=hh
     obtain⟨e,e2⟩:=h1 hal
     rw[hμ] at e
     simp only[Option.some.injEq,Prod.mk.injEq] at e
     obtain⟨rfl,rfl⟩:=e
     rw[hB] at e2
     simp only[Blk.es] at e2
     subst e2
     simp only[stS,hB,Blk.es,Blk.xs]
     obtain⟨vs,hc1,hc2,hc3⟩:=qkf r3
     have hxi:=qer hi
     have hxm:=qek hi
     have hbound:base+i*es+off+n≤base+xs.length*es:=by
      have:(i+1)*es≤xs.length*es:=Nat.mul_le_mul_right es hi
      rw[Nat.add_mul] at this
      omega
     have hgoal:∀y,y=u.toD σ→y.cells.length=n→y.flat→(∀j c,vs[j]? = some c→qdk w I' c (y.cell j)∧c.oneCell'=true)→vs.length=n →
       ∃w' I'',(Instr.storeAt t (.pointer (some ⟨b,base+i*es+off,none⟩)) v).run P w=.ok () w'∧Rel w' I'' μ ((freezeL σ u.refs).set id (.arr es (xs.set i ((xs.getD i default).putAt es off n y)))) ∧
        qcn σ.length w I μ σ w' I'' μ ((freezeL σ u.refs).set id (.arr es (xs.set i ((xs.getD i default).putAt es off n y)))):=by
      intro y _ hyn hyf hyc hvl
      obtain⟨w',hr,ww,hw⟩:=qiw (P:=P) (w:=w) (b:=b) (o:=base+i*es+off) (vs:=vs) hpl (by omega) (fun c hc=>by
       obtain⟨j,hj⟩:=List.getElem?_of_mem hc
       exact(hyc j c hj).2)
      have k:=qka r1 hown hμ ww (.arr es (xs.set i ((xs.getD i default).putAt es off n y))) (by rw[hB'];rfl) (by rw[hB'];rfl) (by rw[hB'];simp[Blk.xs])
      rw[r4] at k
      refine⟨w',I',qr1 hs hc1 hvl hr,?_,r2.trans k⟩
      refine r1.upd hown hμ ww _ (by rw[hB'];rfl) (by rw[hB'];rfl) (by rw[hB'];simp[Blk.xs]) (.inr ⟨b,base,hμ,hnI,ww.plain hpl,by rw[ww.bsize];simpa using hsz,fun x hx=>?_,fun x hx=>?_,fun i' j x y' hx hy=>?_⟩)
      ·rcases List.mem_or_eq_of_mem_set hx with hx|rfl
       ·exact h5 x hx
       ·exact qlj hyn
      ·rcases List.mem_or_eq_of_mem_set hx with hx|rfl
       ·exact h6 x hx
       ·exact Qds (h6 _ hxm) hyf (h5 _ hxm) hyn
      ·by_cases ei:i=i'
       ·subst ei
        rw[List.getElem?_set_self hi] at hx
        simp only[Option.some.injEq] at hx
        subst hx
        have hjl:j<es:=by
         rw[←qlj (x:=xs.getD i default) (N:=es) (off:=off) hyn]
         rcases Nat.lt_or_ge j ((xs.getD i default).putAt es off n y).cells.length with h'|h'
         ·exact h'
         ·rw[List.getElem?_eq_none h'] at hy;cases hy
        rw[←D.cell_of hy,qzq hjl,hw]
        by_cases hin:off≤j∧j<off+n
        ·have hlt:j-off<vs.length:=by omega
         rw[if_pos hin,if_pos ⟨by omega,by omega⟩]
         refine⟨_,by rw[←List.getElem?_eq_getElem hlt];congr 1;omega,?_⟩
         exact((hyc (j-off) _ (List.getElem?_eq_getElem hlt)).1).keep k.imm k.rsame
        ·rw[if_neg hin,if_neg (by omega)]
         have hjx:j<(xs.getD i default).cells.length:=by rw[h5 _ hxm];exact hjl
         obtain⟨v',hv',hr'⟩:=h7 i j _ _ hxi (List.getElem?_eq_getElem hjx)
         rw[D.cell_of (List.getElem?_eq_getElem hjx)]
         exact⟨v',hv',hr'.keep k.imm k.rsame⟩
       ·rw[List.getElem?_set_ne ei] at hx
        obtain⟨v',hv',hr'⟩:=h7 i' j x y' hx hy
        refine⟨v',?_,hr'.keep k.imm k.rsame⟩
        rw[hw,if_neg]
        ·exact hv'
        ·have hjl:j<es:=by
          rw[←h5 x (List.mem_of_getElem? hx)]
          rcases Nat.lt_or_ge j x.cells.length with h'|h'
          ·exact h'
          ·rw[List.getElem?_eq_none h'] at hy;cases hy
         rw[hvl]
         intro ⟨ha,hb'⟩
         rcases Nat.lt_or_gt_of_ne ei with hlt|hgt
         ·have:(i+1)*es≤i'*es:=Nat.mul_le_mul_right es hlt
          rw[Nat.add_mul] at this
          omega
         ·have:(i'+1)*es≤i*es:=Nat.mul_le_mul_right es hgt
          rw[Nat.add_mul] at this
          omega
     exact hgoal _ rfl hnc r3.flat hc3 (hc2.trans hnc)
  | _=>rw[hB] at hb;simp[Blk.isOwnArr] at hb
 | _=>exact ho.elim
end Go.AM


namespace Go.AM
variable {P:Program} {w:World} {I:Im}
def qj0 (w:World) (I:Im) (v:Value) (g:Bool) (as:List D):Prop:=
 if g=true then ∃vs:List Value,v=.agg vs.toArray∧vs.length=as.length∧∀(i:Nat) (u:Value) (x:D),vs[i]? = some u→as[i]? = some x→qdk w I u x
 else ∃x,as=[x]∧qdk w I v x
theorem qnk:∀{l:List Nat} {as bs:List D},qke l as bs=true→as.length=l.length∧bs.length=l.length
 | [],[],[],_=>⟨rfl,rfl⟩
 | [],[],_::_,h=>by simp[qke] at h
 | [],_::_,_,h=>by simp[qke] at h
 | _::_,[],_,h=>by simp[qke] at h
 | _::_,_::_,[],h=>by simp[qke] at h
 | c::l,a::as,b::bs,h=>by
  simp only[qke,Bool.and_eq_true] at h
  have:=qnk h.2
  simp[this.1,this.2]
theorem q17:∀{l l':List Nat} {as bs:List D},qke (l++l') as bs=true→qke l (as.take l.length) (bs.take l.length)=true∧qke l' (as.drop l.length) (bs.drop l.length)=true
 | [],l',as,bs,h=>⟨by simp[qke],by simpa using h⟩
 | c::l,l',[],_,h=>by simp[qke] at h
 | c::l,l',_::_,[],h=>by simp[qke] at h
 | c::l,l',a::as,b::bs,h=>by
  simp only[List.cons_append,qke,Bool.and_eq_true] at h
  have ih:=q17 h.2
  simp only[List.length_cons,List.take_succ_cons,List.drop_succ_cons,qke,Bool.and_eq_true]
  exact⟨⟨h.1,ih.1⟩,ih.2⟩
theorem Qc0:∀{as bs as' bs':List D},as.length=bs.length→qhs (as++as') (bs++bs')=(qhs as bs&&qhs as' bs')
 | [],[],as',bs',_=>by simp[qhs]
 | [],_::_,_,_,h=>by simp at h
 | _::_,[],_,_,h=>by simp at h
 | a::as,b::bs,as',bs',h=>by
  have:=Qc0 (as':=as') (bs':=bs') (as:=as) (bs:=bs) (by simpa using h)
  simp only[List.cons_append,qhs,this,Bool.and_assoc]
theorem q0m {as bs:List D} {n:Nat} (ha:n≤as.length) (hb:n≤bs.length):qhs as bs=(qhs (as.take n) (bs.take n)&&qhs (as.drop n) (bs.drop n)):=by
 have:=Qc0 (as':=as.drop n) (bs':=bs.drop n) (as:=as.take n) (bs:=bs.take n) (by rw[List.length_take,List.length_take];omega)
 rw[List.take_append_drop,List.take_append_drop] at this
 exact this
theorem qra {vs:List Value} {as:List D} (hl:vs.length=as.length) (h:∀(i:Nat) (u:Value) (x:D),vs[i]? = some u→as[i]? = some x→qdk w I u x) {t:TypeId} {g:Bool} {n o:Nat} (hk:qbm P t=some g) (hs:tsz P t=some n) (hn:g=false→n=1) (ho:o+n≤as.length) :
  ∃u,(part t vs.toArray o).run P w=.ok u w∧qj0 w I u g ((as.drop o).take n):=by
 unfold part
 cases g with
 | true=>
  refine⟨.agg (vs.toArray.extract o (o+n)),by simp only[Sem.run_bind,qf7 hk,Result.andThen_ok,if_true,qcu hs,Sem.run_pure],?_⟩
  unfold qj0
  rw[if_pos rfl]
  refine⟨(vs.drop o).take n,?_,by rw[List.length_take,List.length_take,List.length_drop,List.length_drop,hl],fun i u x hu hx=>?_⟩
  ·congr 1
   apply Array.ext'
   simp[List.take_drop,Nat.add_comm]
  ·rw[List.getElem?_take] at hu hx
   split at hu
   ·rename_i hi
    rw[if_pos hi] at hx
    rw[List.getElem?_drop] at hu hx
    exact h _ _ _ hu hx
   ·cases hu
 | false=>
  have hn:=hn rfl
  subst hn
  have la:o<as.length:=by omega
  have lv:o<vs.length:=by omega
  refine⟨vs[o],by simp[qf7 hk,lv],?_⟩
  unfold qj0
  rw[if_neg (by simp)]
  refine⟨as[o],?_,h o _ _ (List.getElem?_eq_getElem lv) (List.getElem?_eq_getElem la)⟩
  rw[List.drop_eq_getElem_cons la];rfl
theorem qnw {v:Value} {as:List D} (h:qj0 w I v false as):∃x,as=[x]∧qdk w I v x:=by
 unfold qj0 at h;rw[if_neg (by simp)] at h;exact h
theorem q0y {v:Value} {as:List D} (h:qj0 w I v true as):∃vs:List Value,v=.agg vs.toArray∧vs.length=as.length∧∀(i:Nat) (u:Value) (x:D),vs[i]? = some u→as[i]? = some x→qdk w I u x:=by
 unfold qj0 at h;rw[if_pos rfl] at h;exact h
def Qsv (P:Program) (w:World) (I:Im) (d:Nat) (g:TypeId→Option (List Nat)):Prop:=
 ∀(t:TypeId) (l:List Nat),g t=some l→∃b,qbm P t=some b∧(b=false→l.length=1)∧∀{v v':Value} {as bs:List D},qj0 w I v b as→qj0 w I v' b bs→qke l as bs=true→∀D,d≤D→(Op.equalIn D t v v').run P w=.ok (qhs as bs) w
theorem q8m {d:Nat} {g:TypeId→Option (List Nat)} (hg:Qsv P w I d g):∀{fs:List Field} {o:Nat} {l:List Nat},q5o P g fs o=some l→∀{xs ys:List Value} {as bs:List D},
  (∀(i:Nat) (v:Value) (y:D),xs[i]? = some v→as[i]? = some y→qdk w I v y)→(∀(i:Nat) (v:Value) (y:D),ys[i]? = some v→bs[i]? = some y→qdk w I v y)→xs.length=as.length→ys.length=bs.length →
  qke l (as.drop o) (bs.drop o)=true→∀D,d≤D→(Op.eqFields D xs.toArray ys.toArray fs).run P w=.ok (qhs (as.drop o) (bs.drop o)) w:=by
 intro fs
 induction fs with
 | nil=>
  intro o l hf xs ys as bs _ _ _ _ hc D hD
  simp only[q5o,Option.some.injEq] at hf
  subst hf
  have:=qnk hc
  have:as.drop o=[]:=List.length_eq_zero_iff.1 this.1
  rw[this]
  simp[Op.eqFields,qhs]
 | cons f fs ih=>
  intro o l hf xs ys as bs hrx hry hlx hly hc D hD
  simp only[q5o] at hf
  split at hf
  ·rename_i hcond
   obtain⟨hn,hoff⟩:=hcond
   split at hf
   ·rename_i l1 hl1
    split at hf
    ·rename_i hsz
     obtain⟨hsz,hpos⟩:=hsz
     split at hf
     ·rename_i l2 hl2
      simp only[Option.some.injEq] at hf
      subst hf
      obtain⟨b,hk,hb1,hsp⟩:=hg _ _ hl1
      have hlen:=qnk hc
      rw[List.length_append] at hlen
      rw[List.length_drop,List.length_drop] at hlen
      obtain⟨c1,c2⟩:=q17 hc
      obtain⟨u,hu1,hu2⟩:=qra hlx hrx (t:=f.type) (o:=o) hk hsz hb1 (by omega)
      obtain⟨u',hu1',hu2'⟩:=qra hly hry (t:=f.type) (o:=o) hk hsz hb1 (by omega)
      have heq:=hsp hu2 hu2' c1 D hD
      rw[List.drop_drop,List.drop_drop] at c2
      have ih':=ih hl2 hrx hry hlx hly c2 D hD
      rw[←hoff] at hu1 hu1'
      simp only[Op.eqFields,ne_eq,hn,not_false_eq_true,if_true,Sem.run_bind,hu1,hu1',Result.andThen_ok,heq]
      rw[q0m (as:=as.drop o) (bs:=bs.drop o) (n:=l1.length) (by rw[List.length_drop];omega) (by rw[List.length_drop];omega),List.drop_drop,List.drop_drop]
      cases hbq:qhs ((as.drop o).take l1.length) ((bs.drop o).take l1.length) with
      | false=>simp
      | true=>
       simp only[Bool.true_and]
       simpa using ih'
     ·cases hf
    ·cases hf
   ·cases hf
  ·cases hf
theorem qz9 {d:Nat} {g:TypeId→Option (List Nat)} (hg:Qsv P w I d g) {e:TypeId} {l:List Nat} (he:g e=some l) (hs:tsz P e=some l.length) (hpos:0<l.length) {xs ys:List Value} {as bs:List D}
  (hrx:∀(i:Nat) (v:Value) (y:D),xs[i]? = some v→as[i]? = some y→qdk w I v y) (hry:∀(i:Nat) (v:Value) (y:D),ys[i]? = some v→bs[i]? = some y→qdk w I v y) (hlx:xs.length=as.length) (hly:ys.length=bs.length) :
  ∀(n k:Nat),qke (List.replicate n l).flatten (as.drop (k*l.length)) (bs.drop (k*l.length))=true→∀D,d≤D→(Op.eqItems D e l.length xs.toArray ys.toArray (List.range' k n)).run P w=.ok (qhs (as.drop (k*l.length)) (bs.drop (k*l.length))) w
 | 0,k,hc,D,hD=>by
  have:=qnk hc
  have e1:as.drop (k*l.length)=[]:=List.length_eq_zero_iff.1 (by simpa using this.1)
  rw[e1]
  simp[Op.eqItems,qhs]
 | n+1,k,hc,D,hD=>by
  obtain⟨b,hk,hb1,hsp⟩:=hg _ _ he
  rw[List.replicate_succ,List.flatten_cons] at hc
  have hlen:=qnk hc
  rw[List.length_append,List.length_drop,List.length_drop] at hlen
  obtain⟨c1,c2⟩:=q17 hc
  obtain⟨u,hu1,hu2⟩:=qra hlx hrx (t:=e) (o:=k*l.length) hk hs hb1 (by omega)
  obtain⟨u',hu1',hu2'⟩:=qra hly hry (t:=e) (o:=k*l.length) hk hs hb1 (by omega)
  have heq:=hsp hu2 hu2' c1 D hD
  have ek:k*l.length+l.length=(k+1)*l.length:=by rw[Nat.succ_mul]
  rw[List.drop_drop,List.drop_drop,ek] at c2
  have ih:=qz9 hg he hs hpos hrx hry hlx hly n (k+1) c2 D hD
  rw[List.range'_succ]
  simp only[Op.eqItems,Sem.run_bind,hu1,hu1',Result.andThen_ok,heq]
  rw[q0m (as:=as.drop (k*l.length)) (bs:=bs.drop (k*l.length)) (n:=l.length) (by rw[List.length_drop];omega) (by rw[List.length_drop];omega),List.drop_drop,List.drop_drop,ek]
  cases hbq:qhs ((as.drop (k*l.length)).take l.length) ((bs.drop (k*l.length)).take l.length) with
  | false=>simp
  | true=>
   simp only[Bool.true_and]
   simpa using ih
theorem qz3:∀d:Nat,Qsv P w I d (Qdz P d)
 | 0=>by intro t l h;simp[Qdz] at h
 | d+1=>by
  have ih:=qz3 d
  intro t l h
  unfold Qdz at h
  split at h
  ·rename_i k hu
   simp only[Option.some.injEq] at h
   subst h
   refine⟨false,by unfold qbm;rw[hu],fun _=>rfl,fun {v v' as bs} h1 h2 hc m hm=>?_⟩
   obtain⟨x,rfl,r1⟩:=qnw h1
   obtain⟨y,rfl,r2⟩:=qnw h2
   obtain⟨m,rfl⟩:∃m',m=m'+1:=⟨m-1,by omega⟩
   simp only[qke,Bool.and_true] at hc
   cases r1<;>cases r2<;>simp[D.cmp1] at hc
   subst hc
   simp only[qhs,Bool.and_true,D.beq1]
   exact run_equalIn_int w m t _ k _ _ hu
  ·rename_i hu
   simp only[Option.some.injEq] at h
   subst h
   refine⟨false,by unfold qbm;rw[hu],fun _=>rfl,fun {v v' as bs} h1 h2 hc m hm=>?_⟩
   obtain⟨x,rfl,r1⟩:=qnw h1
   obtain⟨y,rfl,r2⟩:=qnw h2
   obtain⟨m,rfl⟩:∃m',m=m'+1:=⟨m-1,by omega⟩
   simp only[qke,Bool.and_true] at hc
   cases r1<;>cases r2<;>simp[D.cmp1] at hc
   simp only[qhs,Bool.and_true,D.beq1]
   exact run_equalIn_bool' w m t _ _ hu
  ·rename_i hu
   simp only[Option.some.injEq] at h
   subst h
   refine⟨false,by unfold qbm;rw[hu],fun _=>rfl,fun {v v' as bs} h1 h2 hc m hm=>?_⟩
   obtain⟨x,rfl,r1⟩:=qnw h1
   obtain⟨y,rfl,r2⟩:=qnw h2
   obtain⟨m,rfl⟩:∃m',m=m'+1:=⟨m-1,by omega⟩
   simp only[qke,Bool.and_true] at hc
   cases r1<;>cases r2<;>simp[D.cmp1] at hc
   simp only[qhs,Bool.and_true,D.beq1]
   rw[run_equalIn_string w m t _ _ hu,ByteArray.toList_eq,ByteArray.toList_eq]
  ·rename_i fs hu
   split at h
   ·rename_i hst
    refine⟨true,(by unfold qbm;rw[hu]),(fun hb=>by cases hb),fun {v v' as bs} h1 h2 hc m hm=>?_⟩
    obtain⟨xs,rfl,hlx,hrx⟩:=q0y h1
    obtain⟨ys,rfl,hly,hry⟩:=q0y h2
    obtain⟨m,rfl⟩:∃m',m=m'+1:=⟨m-1,by omega⟩
    have hf:P.fieldsOf t=fs:=by unfold Program.fieldsOf;rw[hu]
    rw[run_equalIn_agg w m t _ _ (by rw[hf];exact hu) hst,hf]
    have:=q8m ih h hrx hry hlx hly (by simpa using hc) m (by omega)
    simpa using this
   ·cases h
  ·rename_i n e hu
   split at h
   ·rename_i l1 hl1
    split at h
    ·rename_i hs
     obtain⟨hs,hpos⟩:=hs
     simp only[Option.some.injEq] at h
     subst h
     refine⟨true,(by unfold qbm;rw[hu]),(fun hb=>by cases hb),fun {v v' as bs} h1 h2 hc m hm=>?_⟩
     obtain⟨xs,rfl,hlx,hrx⟩:=q0y h1
     obtain⟨ys,rfl,hly,hry⟩:=q0y h2
     obtain⟨m,rfl⟩:∃m',m=m'+1:=⟨m-1,by omega⟩
     obtain⟨i,hi,hi2⟩:∃i,P.info? e=some i∧i.size=l1.length:=by
      unfold tsz at hs
      cases hq:P.info? e with
      | none=>rw[hq] at hs;cases hs
      | some i=>rw[hq] at hs;exact⟨i,rfl,by simpa using hs⟩
     have hce:P.cellsOf e=l1.length:=by unfold Program.cellsOf;rw[hi];exact hi2
     rw[run_equalIn_array w m xs.toArray ys.toArray hu hi,hce,List.range_eq_range']
     have:=qz9 ih hl1 hs hpos hrx hry hlx hly n 0 (by simpa using hc) m (by omega)
     simpa using this
    ·cases h
   ·cases h
  ·cases h
end Go.AM


namespace Go.AM
variable {P:Program} {w:World} {I:Im} {μ:Pos} {σ:Sto}
theorem qd1 (op:BinOp) (t:TypeId) (x y:Operand) (a b:Value) (ha:(match a with|.agg _|.nilIface=>false|_=>true)=true):(eqGuard op t x y a b).run P w=.ok () w:=by
 unfold eqGuard
 cases op<;>cases a<;>simp_all
theorem Qry (op:BinOp) (t:TypeId) (k k':IntKind) (a b:Int) (ho:qda op k k' b) :
  ∃u,(binOp op t (.int k a) (.int k' b)).run P w=.ok u w∧qdk w I u (qk8 op k a b):=by
 cases op<;>simp only[qda] at ho
 case shl=>exact⟨.int k (k.wrap (a*2 ^ (min b.toNat k.bits))),by simp[binOp,Op.shift,Int.not_lt.2 ho],.int _ _⟩
 case shr=>exact⟨.int k (a.fdiv (2 ^ (min b.toNat k.bits))),by simp[binOp,Op.shift,Int.not_lt.2 ho],.int _ _⟩
 case quo=>obtain⟨rfl,hb⟩:=ho;exact⟨.int k (k.wrap (a.tdiv b)),by simp[binOp,Op.intDiv,hb],.int _ _⟩
 case rem=>obtain⟨rfl,hb⟩:=ho;exact⟨.int k (a.tmod b),by simp[binOp,Op.intDiv,hb],.int _ _⟩
 all_goals subst ho
 case add=>exact⟨.int k (k.wrap (a+b)),by simp[binOp,Op.intArith],.int _ _⟩
 case sub=>exact⟨.int k (k.wrap (a-b)),by simp[binOp,Op.intArith],.int _ _⟩
 case mul=>exact⟨.int k (k.wrap (a*b)),by simp[binOp,Op.intArith],.int _ _⟩
 case and=>exact⟨.int k (k.wrap ((BitVec.ofInt k.bits a) &&& (BitVec.ofInt k.bits b)).toNat),by simp only[binOp,ne_eq,not_true_eq_false,if_false,Op.intBits,Sem.run_pure],.int _ _⟩
 case or=>exact⟨.int k (k.wrap ((BitVec.ofInt k.bits a) ||| (BitVec.ofInt k.bits b)).toNat),by simp only[binOp,ne_eq,not_true_eq_false,if_false,Op.intBits,Sem.run_pure],.int _ _⟩
 case xor=>exact⟨.int k (k.wrap ((BitVec.ofInt k.bits a) ^^^ (BitVec.ofInt k.bits b)).toNat),by simp only[binOp,ne_eq,not_true_eq_false,if_false,Op.intBits,Sem.run_pure],.int _ _⟩
 case andNot=>exact⟨.int k (k.wrap ((BitVec.ofInt k.bits a) &&& ~~~(BitVec.ofInt k.bits b)).toNat),by simp only[binOp,ne_eq,not_true_eq_false,if_false,Op.intBits,Sem.run_pure],.int _ _⟩
 case eql=>exact⟨.bool (a==b),by simp[binOp,Op.intCmp],.bool _⟩
 case neq=>exact⟨.bool (a !=b),by simp[binOp,Op.intCmp],.bool _⟩
 case lss=>exact⟨.bool (decide (a<b)),by simp[binOp,Op.intCmp],.bool _⟩
 case leq=>exact⟨.bool (decide (a≤b)),by simp[binOp,Op.intCmp],.bool _⟩
 case gtr=>exact⟨.bool (decide (a>b)),by simp[binOp,Op.intCmp],.bool _⟩
 case geq=>exact⟨.bool (decide (a≥b)),by simp[binOp,Op.intCmp],.bool _⟩
theorem Qft (s:List UInt8):(⟨s.toArray⟩:ByteArray).toList=s:=by
 rw[ByteArray.toList_eq]
theorem Qqy (op:BinOp) (t:TypeId) (a b:List UInt8) (ho:qez op a b) :
  ∃u,(binOp op t (.string ⟨a.toArray⟩) (.string ⟨b.toArray⟩)).run P w=.ok u w∧qdk w I u (qkn op a b):=by
 have e:binOp op t (.string ⟨a.toArray⟩) (.string ⟨b.toArray⟩)=Op.stringOp op ⟨a.toArray⟩ ⟨b.toArray⟩:=by cases op<;>rfl
 rw[e]
 cases op<;>simp only[qez] at ho
 case add=>
  have hs:¬(((⟨a.toArray⟩:ByteArray).size+(⟨b.toArray⟩:ByteArray).size:Nat):Int)>IntKind.i64.max:=by
   have:IntKind.i64.max=9223372036854775807:=by decide
   rw[this]
   show ¬(((a.toArray.size+b.toArray.size:Nat):Int))>_
   simp only[List.size_toArray]
   omega
  refine⟨.string (⟨a.toArray⟩++⟨b.toArray⟩),by simp only[Op.stringOp,if_neg hs,Sem.run_pure],?_⟩
  have e2:((⟨a.toArray⟩:ByteArray)++⟨b.toArray⟩)=⟨(a++b).toArray⟩:=by
   apply ByteArray.ext
   simp[ByteArray.data_append]
  rw[e2];exact .str _
 all_goals first
  | exact ho.elim
  | exact⟨.bool _,by simp only[Op.stringOp,Sem.run_pure,Qft],.bool _⟩
theorem q81 {op:BinOp} {t:TypeId} {x y:Operand} {a b:Value} {u v:AV} (ha:qbg w I μ σ a u) (hb:qbg w I μ σ b v) (ho:Qqo P t op u v) :
  ∃z,(do eqGuard op t x y a b;binOp op t a b:Sem Value).run P w=.ok z w∧qbg w I μ σ z (Qsn op u v):=by
 cases u with
 | d p=>
  cases v with
  | d q=>
   have h1:=ha.inv_d
   have h2:=hb.inv_d
   have fin:(∃z,(binOp op t a b).run P w=.ok z w∧qdk w I z (qlc op p q))→(eqGuard op t x y a b).run P w=.ok () w →
     ∃z,(do eqGuard op t x y a b;binOp op t a b:Sem Value).run P w=.ok z w∧qbg w I μ σ z (Qsn op (.d p) (.d q)):=by
    rintro⟨z,hz,hr⟩ hg
    exact⟨z,by simp only[Sem.run_bind,hg,Result.andThen_ok];exact hz,.d _ _ hr⟩
   cases h1 with
   | int k n=>
    cases h2 with
    | int k' n'=>exact fin (Qry op t k k' n n' ho) (qd1 op t x y _ _ rfl)
    | _=>exact ho.elim
   | str s=>
    cases h2 with
    | str s'=>exact fin (Qqy op t s s' ho) (qd1 op t x y _ _ rfl)
    | _=>exact ho.elim
   | bool c=>
    cases h2 with
    | bool c'=>
     obtain⟨h3,h4⟩:=ho
     refine fin ?_ (qd1 op t x y _ _ rfl)
     cases op<;>simp only at h3
     ·exact⟨.bool (c==c'),by simp[binOp,Op.equal,Op.maxDepth,run_equalIn_bool' w 9999 t c c' h4],.bool _⟩
     ·exact⟨.bool (!(c==c')),by simp[binOp,Op.equal,Op.maxDepth,run_equalIn_bool' w 9999 t c c' h4],.bool _⟩
    | _=>exact ho.elim
   | agg vs cs hl _ hh=>
    cases h2 with
    | agg vs' cs' hl' _ hh'=>
     obtain⟨h3,h4⟩:=ho
     cases ht:qlx P t with
     | none=>rw[ht] at h4;exact h4.elim
     | some l=>
      rw[ht] at h4
      unfold qlx at ht
      split at ht
      ·rename_i hc
       obtain⟨b,hk,_,hsp⟩:=qz3 (P:=P) (w:=w) (I:=I) 6 t l ht
       rw[hc.1] at hk
       simp only[Option.some.injEq] at hk
       subst hk
       have e1:(Op.equalIn 10000 t (.agg vs.toArray) (.agg vs'.toArray)).run P w=.ok (qhs cs cs') w:=
        hsp (by unfold qj0;rw[if_pos rfl];exact⟨vs,rfl,hl,hh⟩) (by unfold qj0;rw[if_pos rfl];exact⟨vs',rfl,hl',hh'⟩) h4 10000 (by omega)
       refine fin ?_ (run_eqGuard_agg w op t x y _ _ hc.2)
       cases op<;>simp only at h3
       ·exact⟨.bool (qhs cs cs'),by rw[run_eql_struct,e1];rfl,.bool _⟩
       ·exact⟨.bool (!(qhs cs cs')),by rw[run_neq_struct,e1];rfl,.bool _⟩
      ·cases ht
    | _=>exact ho.elim
   | _=>cases q<;>exact ho.elim
  | _=>exact ho.elim
 | _=>exact ho.elim
theorem qug {op:BinOp} {t:TypeId} {x y:Operand} {a b:Value} {u:AV} {c:Bool} (h:op=.eql∨op=.neq) (hg:(match a with|.agg _|.nilIface=>false|_=>true)=true)
  (hb:binOp .eql t a b=(do pure (.bool (←Op.equal t a b)):Sem Value)) (hb2:binOp .neq t a b=(do pure (.bool (!(←Op.equal t a b))):Sem Value))
  (he:(Op.equal t a b).run P w=.ok c w) (hu:qc9 u=.d (.bool c)∨qc9 u=.anyb) :
  ∃z,(do eqGuard op t x y a b;binOp op t a b:Sem Value).run P w=.ok z w∧qbg w I μ σ z (qjm op (qc9 u)):=by
 have hgd:=qd1 (P:=P) (w:=w) op t x y a b hg
 rcases h with rfl|rfl
 ·refine⟨.bool c,by simp only[Sem.run_bind,hgd,Result.andThen_ok,hb,he,Sem.run_pure],?_⟩
  rcases hu with hu|hu<;>rw[hu]
  ·exact .d _ _ (.bool _)
  ·exact .anyb _
 ·refine⟨.bool (!c),by simp only[Sem.run_bind,hgd,Result.andThen_ok,hb2,he,Sem.run_pure],?_⟩
  rcases hu with hu|hu<;>rw[hu]
  ·exact .d _ _ (.bool _)
  ·exact .anyb _
theorem Qfp {t:TypeId} (h:(qcc P t).isSome=true):∃e,P.underlying t=some (.slice e):=by
 unfold qcc at h
 split at h
 ·exact⟨_,by assumption⟩
 ·cases h
theorem Qqt {t:TypeId} (h:Qdb P t=true):∃e,P.underlying t=some (.pointer e):=by
 unfold Qdb at h
 split at h
 ·exact⟨_,by assumption⟩
 ·cases h
theorem Qqu {t:TypeId} (h:(qiu P t).isSome=true):∃k e,P.underlying t=some (.map k e):=by
 unfold qiu at h
 split at h
 ·exact⟨_,_,by assumption⟩
 ·cases h
theorem qof {t e:TypeId} (h:P.underlying t=some (.slice e)) (p:Option Addr) (n c:Nat) (d:Nat):(Op.equalIn (d+1) t (.slice p n c) (.slice none 0 0)).run P w=.ok p.isNone w:=by
 cases p<;>simp[Op.equalIn,run_underlying h]
theorem qvi {t e:TypeId} (h:P.underlying t=some (.slice e)) (p:Option Addr) (n c:Nat):(Op.equal t (.slice p n c) (.slice none 0 0)).run P w=.ok p.isNone w:=qof h p n c 9999
theorem qvj {t e:TypeId} (h:P.underlying t=some (.pointer e)) (p:Option Addr) (d:Nat):(Op.equalIn (d+1) t (.pointer p) (.pointer none)).run P w=.ok p.isNone w:=by
 cases p<;>simp[Op.equalIn,run_underlying h]
theorem q13 {t e:TypeId} (h:P.underlying t=some (.pointer e)) (p:Option Addr):(Op.equal t (.pointer p) (.pointer none)).run P w=.ok p.isNone w:=qvj h p 9999
theorem qvk {t k e:TypeId} (h:P.underlying t=some (.map k e)) (p:Option Nat) (d:Nat):(Op.equalIn (d+1) t (.map p) (.map none)).run P w=.ok p.isNone w:=by
 cases p<;>simp[Op.equalIn,run_underlying h]
theorem q14 {t k e:TypeId} (h:P.underlying t=some (.map k e)) (p:Option Nat):(Op.equal t (.map p) (.map none)).run P w=.ok p.isNone w:=qvk h p 9999
theorem Qwc (xs:List D):qc9 (.d (.sl xs))=.d (.bool false)∨qc9 (.d (.sl xs))=.anyb:=by cases xs<;>simp[qc9]
theorem Quz (i o n:Nat):qc9 (.osl i o n)=.d (.bool false)∨qc9 (.osl i o n)=.anyb:=by cases n<;>simp[qc9]
theorem Ql1 {op:BinOp} {t:TypeId} {x y:Operand} {a b:Value} {u v:AV} (ha:qbg w I μ σ a u) (hb:qbg w I μ σ b v) (ho:Qu0 P t op u v) :
  ∃z,(do eqGuard op t x y a b;binOp op t a b:Sem Value).run P w=.ok z w∧qbg w I μ σ z (qjm op (qc9 u)):=by
 obtain⟨h,ho⟩:=ho
 have sl:∀(p:Option Addr) (n c:Nat),a=.slice p n c→b=.slice none 0 0→(qcc P t).isSome=true→(qc9 u=.d (.bool p.isNone)∨qc9 u=.anyb) →
   ∃z,(do eqGuard op t x y a b;binOp op t a b:Sem Value).run P w=.ok z w∧qbg w I μ σ z (qjm op (qc9 u)):=by
  intro p n c e1 e2 ht hu
  subst e1;subst e2
  obtain⟨e,ht⟩:=Qfp ht
  exact qug h rfl rfl rfl (qvi ht p n c) hu
 have pt:∀(p:Option Addr),a=.pointer p→b=.pointer none→Qdb P t=true→qc9 u=.d (.bool p.isNone) →
   ∃z,(do eqGuard op t x y a b;binOp op t a b:Sem Value).run P w=.ok z w∧qbg w I μ σ z (qjm op (qc9 u)):=by
  intro p e1 e2 ht hu
  subst e1;subst e2
  obtain⟨e,ht⟩:=Qqt ht
  exact qug h rfl rfl rfl (q13 ht p) (.inl hu)
 have mp:∀(p:Option Nat),a=.map p→b=.map none→(qiu P t).isSome=true→qc9 u=.d (.bool p.isNone) →
   ∃z,(do eqGuard op t x y a b;binOp op t a b:Sem Value).run P w=.ok z w∧qbg w I μ σ z (qjm op (qc9 u)):=by
  intro p e1 e2 ht hu
  subst e1;subst e2
  obtain⟨k,e,ht⟩:=Qqu ht
  exact qug h rfl rfl rfl (q14 ht p) (.inl hu)
 split at ho
 ·have e2:b=.slice none 0 0:=by cases hb;rfl
  have e1:a=.slice none 0 0:=by cases ha;rfl
  exact sl none 0 0 e1 e2 ho (.inl rfl)
 ·have e2:b=.slice none 0 0:=by cases hb;rfl
  cases ha.inv_d with
  | nil p c=>exact sl p 0 c rfl e2 ho (.inr rfl)
  | sl b' off es cap _ vals=>exact sl _ _ _ rfl e2 ho (Qwc _)
 ·have e2:b=.slice none 0 0:=by cases hb;rfl
  cases ha with
  | osl _ id off len hid hh=>
   rcases hh with⟨rfl,p,rfl⟩|⟨b',base,es,cap,_,_,rfl⟩
   ·exact sl p 0 0 rfl e2 ho (.inr rfl)
   ·exact sl _ _ _ rfl e2 ho (Quz _ _ _)
 ·have e2:b=.pointer none:=by cases hb.inv_d;rfl
  cases ha with|ptr _ id off hid hh=>obtain⟨_,_,_,rfl⟩:=hh;exact pt _ rfl e2 ho rfl
 ·have e2:b=.pointer none:=by cases hb.inv_d;rfl
  cases ha with|eptr=>exact pt _ rfl e2 ho rfl
 ·have e2:b=.pointer none:=by cases hb.inv_d;rfl
  cases ha with|aptr _ id i off hid hh=>obtain⟨_,_,_,_,rfl⟩:=hh;exact pt _ rfl e2 ho rfl
 ·have e2:b=.pointer none:=by cases hb.inv_d;rfl
  have e1:a=.pointer none:=by cases ha.inv_d;rfl
  exact pt none e1 e2 ho rfl
 ·have e2:b=.map none:=by cases hb.inv_d;rfl
  cases ha with|mapr _ id hid hh=>obtain⟨_,_,rfl⟩:=hh;exact mp _ rfl e2 ho rfl
 ·have e2:b=.map none:=by cases hb.inv_d;rfl
  have e1:a=.map none:=by cases ha.inv_d;rfl
  exact mp none e1 e2 ho rfl
 ·exact ho.elim
theorem Qe1 {op:BinOp} {t:TypeId} {x y:Operand} {a b:Value} {u v:AV} (ha:qbg w I μ σ a u) (hb:qbg w I μ σ b v) (ho:qf4 P t op u v) :
  ∃z,(do eqGuard op t x y a b;binOp op t a b:Sem Value).run P w=.ok z w∧qbg w I μ σ z (q60 op u v):=by
 unfold qf4 at ho
 unfold q60
 by_cases h:v.isNilc=true
 ·rw[if_pos h] at ho ⊢;exact Ql1 ha hb ho
 ·rw[if_neg h] at ho ⊢;exact q81 ha hb ho
theorem Qfo {op:UnOp} {a:Value} {u:AV} (ha:qbg w I μ σ a u) (ho:Qqv op u):∃z,(Op.unary op a).run P w=.ok z w∧qbg w I μ σ z (unV op u):=by
 cases u with
 | d p=>
  have h1:=ha.inv_d
  cases h1 with
  | int k n=>
   cases op<;>simp only[Qqv] at ho
   ·exact⟨.int k (k.wrap (0-n)),by simp[Op.unary,Op.intArith],.d _ _ (.int _ _)⟩
   ·exact⟨.int k (k.wrap ((BitVec.ofInt k.bits (if k.signed then -1 else k.max)) ^^^ (BitVec.ofInt k.bits n)).toNat),by simp only[Op.unary,Op.intBits,Sem.run_pure],.d _ _ (.int _ _)⟩
  | bool b=>
   cases op<;>simp only[Qqv] at ho
   exact⟨.bool (!b),rfl,.d _ _ (.bool _)⟩
  | _=>exact ho.elim
 | _=>exact ho.elim
end Go.AM


namespace Go.AM
variable {P:Program} {w:World} {I:Im} {μ:Pos} {σ:Sto}
theorem q25 {v:Value} {p:AV} (hv:qbg w I μ σ v p) (hp:p.isPtr=true) (n:Nat):∃b o,v=.pointer (some ⟨b,o,none⟩)∧qbg w I μ σ (.pointer (some ⟨b,o+n,none⟩)) (p.shift n):=by
 cases p with
 | ptr id off=>
  cases hv with
  | ptr _ _ _ hid hh=>
   obtain⟨b,base,h1,rfl⟩:=hh
   exact⟨b,_,rfl,.ptr _ _ _ hid ⟨b,base,h1,by rw[Nat.add_assoc]⟩⟩
 | eptr es xs i off=>
  cases hv with
  | eptr b o _ _ _ _ hh=>exact⟨b,_,rfl,by rw[Nat.add_assoc];exact .eptr b o es xs i (off+n) hh⟩
 | aptr id i off=>
  cases hv with
  | aptr _ _ _ _ hid hh=>
   obtain⟨b,base,es,h1,rfl⟩:=hh
   exact⟨b,_,rfl,.aptr _ _ _ _ hid ⟨b,base,es,h1,by rw[Nat.add_assoc]⟩⟩
 | _=>simp[AV.isPtr] at hp
theorem q2z {s:TypeId} {f o n:Nat} {g:Bool} (h:qd6 P s f=some (o,n,g)):∃fs x,P.underlying s=some (.struct fs)∧fs[f]? = some x∧x.offset=o∧tsz P x.type=some n∧qbm P x.type=some g:=by
 unfold qd6 at h
 split at h
 ·rename_i fs hu
  split at h
  ·rename_i x hx
   split at h
   ·rename_i n' g' h1 h2
    simp only[Option.some.injEq,Prod.mk.injEq] at h
    obtain⟨rfl,rfl,rfl⟩:=h
    exact⟨fs,x,hu,hx,rfl,h1,h2⟩
   ·cases h
  ·cases h
 ·cases h
theorem qwj {s:TypeId} {f o n:Nat} {g:Bool} (h:qd6 P s f=some (o,n,g)) (hn:n≠0) {v:Value} {p:AV} (hv:qbg w I μ σ v p) (hp:p.isPtr=true) :
  ∃u,(Instr.fieldAt s v f).run P w=.ok u w∧qbg w I μ σ u (p.shift o):=by
 obtain⟨fs,x,h1,h2,rfl,h4,_⟩:=q2z h
 obtain⟨b,o',rfl,hr⟩:=q25 hv hp x.offset
 refine⟨_,?_,hr⟩
 simp only[Instr.fieldAt,Instr.sureAddr,fieldPlace,Sem.run_bind,run_underlying h1,Result.andThen_ok,h2,Sem.run_pure,qcu h4,if_neg hn,qe9]
theorem Qep {s:TypeId} {f o n N:Nat} {g:Bool} (h:qd6 P s f=some (o,n,g)) {v:Value} {u:AV} (hv:qbg w I μ σ v u) (ha:u.isAgg=true) (hN:u.ncells=N) (hb:o+n≤N) (hg:g=true∨n=1) :
  ∃z,(Instr.field s v f).run P w=.ok z w∧qbg w I μ σ z (if g=true then u.subV o n else u.cellAt o):=by
 obtain⟨fs,x,h1,h2,rfl,h4,h5⟩:=q2z h
 have hs:u.storable=true:=by cases u<;>simp_all [AV.isAgg,AV.storable]
 obtain⟨vs,hc1,hc2,hc3⟩:=qjy hv hs
 rw[hN] at hc2
 have hvs:v=.agg vs.toArray:=by
  cases u with
  | agg cs=>cases hv;rename_i vs' _ _ _;simp only[Value.cells] at hc1;rw[hc1]
  | d x=>
   have:=hv.inv_d
   rw[D.agg_of_isAgg ha] at this
   cases this;simp only[Value.cells] at hc1;rw[hc1]
  | _=>simp[AV.isAgg] at ha
 subst hvs
 cases g with
 | false=>
  have hn:n=1:=by simpa using hg
  subst hn
  have hl:x.offset<vs.length:=by omega
  refine⟨vs[x.offset],?_,?_⟩
  ·simp only[Instr.field,asAgg,Sem.run_bind,run_underlying h1,Result.andThen_ok,h2,Sem.run_pure,part,qf7 h5]
   simp[hl]
  ·simpa using(hc3 x.offset _ (List.getElem?_eq_getElem hl)).1
 | true=>
  refine⟨.agg ((vs.drop x.offset).take n).toArray,?_,?_⟩
  ·simp only[Instr.field,asAgg,Sem.run_bind,run_underlying h1,Result.andThen_ok,h2,Sem.run_pure,part,qf7 h5,if_true,qcu h4]
   congr 3
   simp
  ·simp only[if_true]
   have rep:∀i c,((vs.drop x.offset).take n)[i]? = some c→i<n∧qbg w I μ σ c (u.cellAt (x.offset+i))∧(u.cellAt (x.offset+i)).one=true:=fun i c hc=>by
    rcases Nat.lt_or_ge i n with hi|hi
    ·rw[List.getElem?_take_of_lt hi,List.getElem?_drop] at hc
     exact⟨hi,(hc3 _ c hc).1,(hc3 _ c hc).2.1⟩
    ·rw[List.getElem?_eq_none (by simp;omega)] at hc;cases hc
   have hlen:((vs.drop x.offset).take n).length=n:=by simp;omega
   cases u with
   | d y=>
    have hyl:y.cells.length=N:=hN
    refine .d _ _ (.agg _ _ (by simp;omega) (fun c hc=>hv.inv_d.flat c (List.mem_of_mem_drop (List.mem_of_mem_take hc))) fun i c z hc hz=>?_)
    obtain⟨hi,r,_⟩:=rep i c hc
    rw[List.getElem?_take_of_lt hi,List.getElem?_drop] at hz
    have:=r.inv_d
    rwa [D.cell_of hz] at this
   | agg cs=>
    have hyl:cs.length=N:=hN
    refine qjn (by simp;omega) (fun c hc=>?_) fun i c z hc hz=>?_
    ·cases hv with
     | agg _ _ _ hone _=>exact hone c (List.mem_of_mem_drop (List.mem_of_mem_take hc))
    ·obtain⟨hi,r,_⟩:=rep i c hc
     rw[List.getElem?_take_of_lt hi,List.getElem?_drop] at hz
     simpa[AV.cellAt,List.getD_eq_getElem?_getD,hz] using r
   | _=>simp[AV.isAgg] at ha
theorem qw0 {t:TypeId} {es:Nat} (h:qkg P t=some (none,es)):∃e,P.underlying t=some (.slice e)∧tsz P e=some es:=by
 unfold qkg at h
 split at h
 ·rename_i e hu
  cases hs:tsz P e with
  | none=>rw[hs] at h;cases h
  | some n=>rw[hs] at h;simp at h;subst h;exact⟨e,hu,hs⟩
 ·rename_i k e hu
  cases hs:tsz P e with
  | none=>rw[hs] at h;cases h
  | some n=>rw[hs] at h;simp at h
 ·cases h
theorem Qdc {t:TypeId} {k es:Nat} (h:qkg P t=some (some k,es)):∃e,P.underlying t=some (.array k e)∧tsz P e=some es:=by
 unfold qkg at h
 split at h
 ·rename_i e hu
  cases hs:tsz P e with
  | none=>rw[hs] at h;cases h
  | some n=>rw[hs] at h;simp at h
 ·rename_i k' e hu
  cases hs:tsz P e with
  | none=>rw[hs] at h;cases h
  | some n=>rw[hs] at h;simp at h;obtain⟨rfl,rfl⟩:=h;exact⟨e,hu,hs⟩
 ·cases h
theorem q8a {v:Value} {u:AV} (hv:qbg w I μ σ v u) (hi:u.isIntv=true):∃k,v=.int k u.num:=by
 cases u with
 | d x=>
  have:=hv.inv_d
  cases this<;>simp_all [AV.isIntv,AV.num]
 | _=>simp[AV.isIntv] at hi
theorem Qmz {t:TypeId} {es:Nat} (ht:qkg P t=some (none,es)) {v iv:Value} {u i:AV} (hv:qbg w I μ σ v u) (hi:qbg w I μ σ iv i) (hint:i.isIntv=true) (ho:q1w σ es i.num u) :
  ∃z,(Instr.indexAt t v iv).run P w=.ok z w∧qbg w I μ σ z (Qve es i.num u):=by
 obtain⟨e,h1,h2⟩:=qw0 ht
 obtain⟨k,rfl⟩:=q8a hi hint
 generalize i.num=n at *
 cases u with
 | d x=>
  cases x with
  | sl xs=>
   obtain⟨p1,p2,p3⟩:=ho
   cases hv.inv_d with
   | nil a cap=>simp at p2;omega
   | sl b off es' cap _ vals hI hcap hes hfl hc hr=>
    have hlt:n.toNat<xs.length:=by omega
    have hes':es'=es:=by rw[←hes _ (qek hlt)];exact p3
    subst hes'
    refine⟨.pointer (some ⟨b,off+n.toNat*es'+0,none⟩),?_,.eptr b off es' xs n.toNat 0 ⟨hI,hes,hfl,fun i j x y hx hy=>?_⟩⟩
    ·simp only[Instr.indexAt,asIntOf,Sem.run_bind,Sem.run_pure,Result.andThen_ok,run_underlying h1]
     simp only[p1,p2,and_self,if_true,Sem.run_bind,qcu h2,Result.andThen_ok,Sem.run_pure,qe9,Nat.add_zero]
    ·have hil:i<xs.length:=by
      rcases Nat.lt_or_ge i xs.length with h'|h'
      ·exact h'
      ·rw[List.getElem?_eq_none h'] at hx;cases hx
     have hjl:j<es':=by
      rw[←hes x (List.mem_of_getElem? hx)]
      rcases Nat.lt_or_ge j x.cells.length with h'|h'
      ·exact h'
      ·rw[List.getElem?_eq_none h'] at hy;cases hy
     exact⟨vals i j,hc i j hil hjl,hr i j x y hx hy⟩
  | _=>exact ho.elim
 | osl id off len=>
  obtain⟨p1,p2,p3,p4⟩:=ho
  have hal:qcb σ id:=by unfold qcb;cases hB:qae σ id<;>simp_all [Blk.isArr,Blk.isDead]
  cases hv with
  | osl _ _ _ _ hid hh=>
   rcases hh with⟨rfl,_⟩|⟨b,base,es',cap,q1,q2,rfl⟩
   ·simp at p2;omega
   ·obtain⟨r1,r2,r3,r4,r5⟩:=q1 hal
    rw[p4] at r3
    subst r3
    refine⟨.pointer (some ⟨b,base+off*es+n.toNat*es,none⟩),?_,.aptr _ _ _ _ hid ⟨b,base,es,fun _=>⟨r1,p4⟩,?_⟩⟩
    ·simp only[Instr.indexAt,asIntOf,Sem.run_bind,Sem.run_pure,Result.andThen_ok,run_underlying h1]
     simp only[p1,p2,and_self,if_true,Sem.run_bind,qcu h2,Result.andThen_ok,Sem.run_pure,qe9]
    ·rw[Nat.add_mul,Nat.add_zero,Nat.add_assoc]
 | rsl id len=>
  obtain⟨p1,p2,p3,p4⟩:=ho
  subst p4
  have hal:qcb σ id:=by unfold qcb;cases hB:qae σ id<;>simp_all [Blk.isBox,Blk.isDead]
  cases hv with
  | rsl _ _ _ hid hh=>
   obtain⟨b,base,cap,q1,q2,rfl⟩:=hh
   refine⟨.pointer (some ⟨b,base+n.toNat*1,none⟩),?_,.ptr _ _ _ hid ⟨b,base,fun ha=>(q1 ha).1,by rw[Nat.mul_one]⟩⟩
   simp only[Instr.indexAt,asIntOf,Sem.run_bind,Sem.run_pure,Result.andThen_ok,run_underlying h1]
   simp only[p1,p2,and_self,if_true,Sem.run_bind,qcu h2,Result.andThen_ok,Sem.run_pure,qe9]
 | _=>exact ho.elim
theorem Qkq {t:TypeId} {k es:Nat} (ht:qkg P t=some (some k,es)) {v iv:Value} {p i:AV} (hv:qbg w I μ σ v p) (hi:qbg w I μ σ iv i) (hint:i.isIntv=true) (ho:Qkr k i.num p) :
  ∃z,(Instr.indexAt t v iv).run P w=.ok z w∧qbg w I μ σ z (p.shift (i.num.toNat*es)):=by
 obtain⟨e,h1,h2⟩:=Qdc ht
 obtain⟨kk,rfl⟩:=q8a hi hint
 obtain⟨p1,p2,p3,p4⟩:=ho
 obtain⟨b,o,rfl,hr⟩:=q25 hv p1 (i.num.toNat*es)
 refine⟨_,?_,hr⟩
 simp only[Instr.indexAt,asIntOf,Instr.sureAddr,Sem.run_bind,Sem.run_pure,Result.andThen_ok,run_underlying h1]
 simp only[p2,p3,and_self,if_true,Sem.run_bind,qcu h2,Result.andThen_ok,Sem.run_pure,qe9]
theorem qc5 {t e:TypeId} (h:qcc P t=some e):P.underlying t=some (.slice e):=by
 unfold qcc at h
 split at h
 ·rename_i e' hu;simp at h;subst h;exact hu
 ·cases h
theorem qrt {t:TypeId} (h:Qfs P t=true):P.underlying t=some .string:=by
 unfold Qfs at h
 split at h
 ·assumption
 ·cases h
theorem Qej {t:TypeId} (ht:Qfs P t=true) {v iv:Value} {i:AV} {s:List UInt8} (hv:qbg w I μ σ v (.d (.str s))) (hi:qbg w I μ σ iv i) (hint:i.isIntv=true) (h0:0≤i.num) (h1:i.num<s.length) :
  ∃z,(Instr.index t v iv).run P w=.ok z w∧qbg w I μ σ z (.d (.int .u8 (s.getD i.num.toNat 0).toNat)):=by
 obtain⟨k,rfl⟩:=q8a hi hint
 cases hv.inv_d
 have hu:=qrt ht
 have hlt:i.num.toNat<s.length:=by omega
 refine⟨_,?_,.d _ _ (.int _ _)⟩
 simp only[Instr.index,asIntOf,Sem.run_bind,Sem.run_pure,Result.andThen_ok,run_underlying hu,h0,if_true]
 have:(⟨s.toArray⟩:ByteArray)[i.num.toNat]? = some (s.getD i.num.toNat 0):=by
  show(if h:i.num.toNat<(⟨s.toArray⟩:ByteArray).size then some ((⟨s.toArray⟩:ByteArray)[i.num.toNat]) else none)=_
  have hsz:(⟨s.toArray⟩:ByteArray).size=s.length:=by simp[ByteArray.size]
  rw[dif_pos (by rw[hsz];exact hlt)]
  congr 1
  rw[List.getD_eq_getElem?_getD,List.getElem?_eq_getElem hlt]
  rfl
 rw[this]
 rfl
end Go.AM


namespace Go.AM
variable {P:Program} {w:World} {I:Im} {μ:Pos} {σ:Sto}
theorem Ql8 {t ty:TypeId} {v:Value} {u:AV} (hv:qbg w I μ σ v u) (ho:u.hasLen P t=true):(Builtin.len_ #[t] ty #[v]).run P w=.ok (.int .i64 u.len) w:=by
 have slice:∀{a:Option Addr} {n c:Nat},(qcc P t).isSome=true→(Builtin.len_ #[t] ty #[.slice a n c]).run P w=.ok (.int .i64 n) w:=fun {a n c} ht=>by
  obtain⟨el,he⟩:=Option.isSome_iff_exists.1 ht
  simp[Builtin.len_,run_underlying (qc5 he),goInt]
 cases u with
 | d x=>
  cases x with
  | sl xs=>
   cases hv.inv_d with
   | nil a cap=>exact slice ho
   | sl b off es cap _ vals _ _ _ _ _ _=>exact slice ho
  | str s=>
   cases hv.inv_d
   have hu:=qrt (show Qfs P t=true from ho)
   have hsz:(⟨s.toArray⟩:ByteArray).size=s.length:=by simp[ByteArray.size]
   simp[Builtin.len_,run_underlying hu,goInt,AV.len,hsz]
  | _=>simp[AV.hasLen] at ho
 | nils=>cases hv;exact slice ho
 | osl id off len=>
  cases hv with
  | osl _ _ _ _ hid hh=>
   rcases hh with⟨rfl,a,rfl⟩|⟨b,base,es,cap,_,_,rfl⟩
   ·exact slice ho
   ·exact slice ho
 | rsl id len=>
  cases hv with
  | rsl _ _ _ hid hh=>
   obtain⟨b,base,cap,_,_,rfl⟩:=hh
   exact slice ho
 | _=>simp[AV.hasLen] at ho
theorem qdt {x:Value} {k:IntKind} {i:Int} {y:Nat} {c:BoundsCode} (hx:x=.int k i) (h0:0≤i) (h1:i≤y):(Instr.sliceBound x y c).run P w=.ok i.toNat w:=by
 subst hx
 simp[Instr.sliceBound,asIntOf,h0,h1]
theorem qiy (isS:Bool) {len cap:Nat} {lo hi:Option Value} {l h:Int} (hl:(lo=none∧l=0)∨∃k,lo=some (.int k l)) (hh:(hi=none∧h=len)∨∃k,hi=some (.int k h)) (h0:0≤l) (h1:l≤h) (h2:h≤cap) :
  (Instr.sliceBounds isS len cap lo hi none).run P w=.ok (l.toNat,h.toNat,cap) w:=by
 unfold Instr.sliceBounds
 have hh':h=((h.toNat:Nat):Int):=by omega
 rcases hl with⟨rfl,rfl⟩|⟨k,rfl⟩<;>rcases hh with⟨rfl,rfl⟩|⟨k',rfl⟩
 ·simp
 ·simp[qdt (P:=P) (w:=w) (x:=.int k' h) rfl (by omega) h2]
 ·simp[qdt (P:=P) (w:=w) (x:=.int k l) (y:=len) rfl h0 (by omega)]
 ·simp only[Sem.run_bind,Sem.run_pure,Result.andThen_ok,qdt (P:=P) (w:=w) (x:=.int k' h) rfl (by omega) h2,Option.isSome_none,Bool.false_eq_true,if_false]
  rw[qdt (P:=P) (w:=w) (x:=.int k l) (y:=h.toNat) rfl h0 (by omega)]
  simp
theorem Qdi {t:TypeId} {v:Value} {lo hi:Option Value} {l h:Int} {u:AV} (hv:qbg w I μ σ v u) (hl:(lo=none∧l=0)∨∃k,lo=some (.int k l)) (hh:(hi=none∧h=u.len)∨∃k,hi=some (.int k h)) (ho:Qdj P t σ l h u) :
  ∃z,(Instr.sliceAt t v lo hi none).run P w=.ok z w∧qbg w I μ σ z (slV l h u):=by
 have isSlice:∀{e:TypeId},P.underlying t=some (.slice e)→(Instr.sliceAt t v lo hi none).run P w=(Instr.slice t v lo hi none).run P w:=fun {e} hu=>by simp[Instr.sliceAt,run_underlying hu]
 have go:∀{a:Option Addr} {len cap n:Nat} {e:TypeId},v=.slice a len cap→P.underlying t=some (.slice e)→tsz P e=some n→((hi=none∧h=len)∨∃k,hi=some (.int k h))→0≤l→l≤h→h≤cap →
   (Instr.sliceAt t v lo hi none).run P w=.ok (.slice (if cap=l.toNat then a else a.map (·.add (l.toNat*n))) (h.toNat-l.toNat) (cap-l.toNat)) w:=by
  intro a len cap n e hv hu hs hh' h0 h1 h2
  rw[isSlice hu]
  subst hv
  simp only[Instr.slice,Sem.run_bind,run_underlying hu,Result.andThen_ok,qiy (P:=P) (w:=w) true hl hh' h0 h1 h2,qcu hs,Sem.run_pure]
 cases u with
 | d x=>
  cases x with
  | str s=>
   obtain⟨h3,h0,h1,h2⟩:=ho
   have hu:=qrt h3
   cases hv.inv_d
   have hsz:(⟨s.toArray⟩:ByteArray).size=s.length:=by simp[ByteArray.size]
   refine⟨.string ((⟨s.toArray⟩:ByteArray).extract l.toNat h.toNat),?_,?_⟩
   ·have e1:(Instr.sliceAt t (.string ⟨s.toArray⟩) lo hi none).run P w=(Instr.slice t (.string ⟨s.toArray⟩) lo hi none).run P w:=by simp[Instr.sliceAt,run_underlying hu]
    rw[e1]
    have:=qiy (P:=P) (w:=w) false (len:=(⟨s.toArray⟩:ByteArray).size) (cap:=(⟨s.toArray⟩:ByteArray).size) hl (by rw[hsz];exact hh) h0 h1 (by rw[hsz];exact h2)
    simp only[Instr.slice,Sem.run_bind,run_underlying hu,Result.andThen_ok,Option.isSome_none,Bool.false_eq_true,if_false,Sem.run_pure,this]
   ·have e2:(⟨s.toArray⟩:ByteArray).extract l.toNat h.toNat=⟨((s.take h.toNat).drop l.toNat).toArray⟩:=by
     apply ByteArray.ext
     simp[ByteArray.data_extract,List.extract_eq_take_drop,List.drop_take]
    rw[e2];exact .d _ _ (.str _)
  | sl xs=>
   obtain⟨⟨h3,h4⟩,h0,h1,h2,h5⟩:=ho
   obtain⟨e,he⟩:=Option.isSome_iff_exists.1 h4
   have hu:=qc5 he
   cases hti:qkg P t with
   | none=>rw[hti] at h3;cases h3
   | some q=>
    obtain⟨kk,es⟩:=q
    have hq:kk=none∧tsz P e=some es:=by
     unfold qkg at hti
     rw[hu] at hti
     cases hs:tsz P e with
     | none=>simp[hs] at hti
     | some n=>simp[hs] at hti;exact⟨hti.1.symm,by rw[hti.2]⟩
    obtain⟨rfl,hs⟩:=hq
    rw[hti] at h5
    simp only at h5
    cases hv.inv_d with
    | nil a cap=>
     have hl0:l=0:=by simp at h2;omega
     have hh0:h=0:=by simp at h2;omega
     subst hl0;subst hh0
     refine⟨_,go rfl hu hs hh (by omega) (by omega) (by omega),?_⟩
     exact .d _ _ (by simpa using qdk.nil _ cap)
    | sl b off es' cap _ vals hI hcap hes hfl hc hr=>
     refine⟨_,go rfl hu hs hh h0 h1 (by omega),?_⟩
     have hlen:((xs.take h.toNat).drop l.toNat).length=h.toNat-l.toNat:=by simp;omega
     by_cases hz:h.toNat-l.toNat=0
     ·rw[hz]
      have:(xs.take h.toNat).drop l.toNat=[]:=List.eq_nil_of_length_eq_zero (by omega)
      show qbg w I μ σ _ (.d (.sl ((xs.take h.toNat).drop l.toNat)))
      rw[this]
      exact .d _ _ (.nil _ _)
     ·have hne:cap≠l.toNat:=by omega
      rw[if_neg hne]
      have hxs:∃x,x∈xs:=by
       cases xs with
       | nil=>simp at h2;omega
       | cons x r=>exact⟨x,List.mem_cons_self⟩
      obtain⟨x0,hx0⟩:=hxs
      have hes':es'=es:=by rw[←hes x0 hx0];exact h5 x0 hx0
      subst hes'
      have hget:∀(i:Nat) (x:D),((xs.take h.toNat).drop l.toNat)[i]? = some x→xs[l.toNat+i]? = some x∧l.toNat+i<xs.length:=fun i x hx=>by
       rw[List.getElem?_drop,List.getElem?_take] at hx
       split at hx
       ·refine⟨hx,?_⟩
        rcases Nat.lt_or_ge (l.toNat+i) xs.length with h'|h'
        ·exact h'
        ·rw[List.getElem?_eq_none h'] at hx;cases hx
       ·cases hx
      have hmem:∀x∈(xs.take h.toNat).drop l.toNat,x∈xs:=fun x hx=>List.mem_of_mem_take (List.mem_of_mem_drop hx)
      have key:=qdk.sl (w:=w) (I:=I) b (off+l.toNat*es') es' (cap-l.toNat) ((xs.take h.toNat).drop l.toNat) (fun i j=>vals (l.toNat+i) j) hI (by rw[hlen];omega)
       (fun x hx=>hes x (hmem x hx)) (fun x hx=>hfl x (hmem x hx)) (fun i j hi hj=>?_) (fun i j x y hx hy=>hr (l.toNat+i) j x y (hget i x hx).1 hy)
      ·rw[hlen] at key
       show qbg w I μ σ _ (.d (.sl ((xs.take h.toNat).drop l.toNat)))
       simpa[qe9] using qbg.d (μ:=μ) (σ:=σ) _ _ key
      ·have hx:((xs.take h.toNat).drop l.toNat)[i]? = some ((xs.take h.toNat).drop l.toNat)[i]:=List.getElem?_eq_getElem hi
       have:=hc (l.toNat+i) j (hget i _ hx).2 hj
       rw[←this]
       congr 2
       rw[Nat.add_mul];omega
  | _=>exact ho.elim
 | nils=>
  obtain⟨h3,h4,rfl,rfl⟩:=ho
  obtain⟨e,he⟩:=Option.isSome_iff_exists.1 h3
  have hu:=qc5 he
  obtain⟨q,hq⟩:=Option.isSome_iff_exists.1 h4
  have hs:∃n,tsz P e=some n:=by
   unfold qkg at hq
   rw[hu] at hq
   cases hs:tsz P e with
   | none=>simp[hs] at hq
   | some n=>exact⟨n,rfl⟩
  obtain⟨n,hs⟩:=hs
  cases hv
  refine⟨_,go rfl hu hs hh (by omega) (by omega) (by omega),?_⟩
  simpa[slV] using(qbg.nils (w:=w) (I:=I) (μ:=μ) (σ:=σ))
 | osl id off len=>
  obtain⟨h3,h0,h1,h2,h4,h5⟩:=ho
  obtain⟨e,he⟩:=Option.isSome_iff_exists.1 h3
  have hu:=qc5 he
  obtain⟨e',hu',hs⟩:=qw0 h5
  rw[hu] at hu'
  simp only[Option.some.injEq,TypeDesc.slice.injEq] at hu'
  subst hu'
  have hal:qcb σ id:=by unfold qcb;cases hB:qae σ id<;>simp_all [Blk.isArr,Blk.isDead]
  cases hv with
  | osl _ _ _ _ hid hv'=>
   rcases hv' with⟨rfl,a,rfl⟩|⟨b,base,es,cap,q1,q2,rfl⟩
   ·have hl0:l=0:=by simp at h2;omega
    have hh0:h=0:=by simp at h2;omega
    subst hl0;subst hh0
    refine⟨_,go rfl hu hs hh (by omega) (by omega) (by omega),?_⟩
    simp only[Int.toNat_zero,Nat.sub_self,if_true,slV]
    exact .osl _ _ _ _ hid (.inl ⟨rfl,a,rfl⟩)
   ·obtain⟨r1,r2,r3,r4,r5⟩:=q1 hal
    refine⟨_,go rfl hu hs hh h0 h1 (by omega),?_⟩
    subst r3
    by_cases hz:cap=l.toNat
    ·rw[if_pos hz]
     have e1:h.toNat-l.toNat=0:=by omega
     have e2:cap-l.toNat=0:=by omega
     simp only[slV,e1,e2]
     exact .osl _ _ _ _ hid (.inl ⟨rfl,_,rfl⟩)
    ·rw[if_neg hz]
     refine .osl _ _ _ _ hid (.inr ⟨b,base,(qae σ id).es,cap-l.toNat,fun _=>⟨r1,r2,rfl,by omega,?_⟩,by omega,?_⟩)
     ·have:off+l.toNat+(cap-l.toNat)=off+cap:=by omega
      rw[this];exact r5
     ·simp only[Option.map_some,qe9]
      congr 3
      rw[Nat.add_mul];omega
 | _=>exact ho.elim
theorem Qcw (h:Rel w I μ σ) (t:TypeId) {v:Value} {u:AV} (hv:qbg w I μ σ v u) (hs:u.storable=true) :
  ∃w' μ',(Instr.box t v).run P w=.ok (.pointer (some ⟨w.heap.size,0,none⟩)) w'∧Rel w' I μ' (σ++[.box u.ncells u])∧qcn σ.length w I μ σ w' I μ' (σ++[.box u.ncells u]) ∧
   qbg w' I μ' (σ++[.box u.ncells u]) (.pointer (some ⟨w.heap.size,0,none⟩)) (.ptr σ.length 0):=by
 obtain⟨vs,hc1,hc2,hc3⟩:=qjy hv hs
 have hsz:vs.toArray.size=u.ncells:=by simpa using hc2
 have k:=qd3 h (.cells vs.toArray t) (w.heap.size,0) (.box vs.toArray.size u)
 have r:=h.newBox vs.toArray t u (by rw[hsz]) (fun j c hc=>by
  have:=hc3 j c (by simpa using hc)
  exact⟨this.2.1,this.1⟩)
 have q:=Qdu (I:=I) (μ:=μ) (σ:=σ) (w:=w) vs.toArray t u
 rw[hsz] at k r q
 refine⟨_,_,?_,r,k,q⟩
 simp only[Instr.box,newVar,newRow,hc1,Sem.run_bind,run_newObj,Result.andThen_ok,Sem.run_pure]
 rfl
theorem Qe4 (h:Rel w I μ σ) {t:TypeId} {z:Value} (hz:qbs P t=some z) (hs:(qdb z).storable=true) :
  ∃w' μ',(Instr.alloc t true (.tuple #[])).run P w=.ok (.pointer (some ⟨w.heap.size,0,none⟩)) w'∧Rel w' I μ' (σ++[.box (qdb z).ncells (qdb z)])∧qcn σ.length w I μ σ w' I μ' (σ++[.box (qdb z).ncells (qdb z)]) ∧
   qbg w' I μ' (σ++[.box (qdb z).ncells (qdb z)]) (.pointer (some ⟨w.heap.size,0,none⟩)) (.ptr σ.length 0):=by
 obtain⟨w',μ',h1,h2⟩:=Qcw (P:=P) h t (qkd z) hs
 refine⟨w',μ',?_,h2⟩
 simp only[Instr.alloc,Sem.run_bind,qg1 hz,Result.andThen_ok]
 simp only[Instr.box,Sem.run_bind] at h1
 exact h1
end Go.AM


namespace Go.AM
variable {P:Program} {w:World} {I:Im} {μ:Pos} {σ:Sto}
theorem Qf6 {b o es:Nat} {xs:List D} (hes:0<es) (hsz:∀x∈xs,x.cells.length=es) (hfl:∀x∈xs,x.flat)
  (hc:∀(i j:Nat) (x y:D),xs[i]? = some x→x.cells[j]? = some y→∃v,w.cell? ⟨b,o+i*es+j,none⟩=some v∧qdk w I v y) :
  ∃news:List Value,news.length=xs.length*es∧(∀j u,news[j]? = some u→w.cell? ⟨b,o+j,none⟩=some u) ∧
   (∀(i j:Nat) (x y:D),xs[i]? = some x→x.cells[j]? = some y→∃u,news[i*es+j]? = some u∧qdk w I u y)∧(∀u∈news,u.oneCell'=true):=by
 have at_:∀q,q<xs.length*es→∃u y,w.cell? ⟨b,o+q,none⟩=some u∧qdk w I u y∧y.one=true:=fun q hq=>by
  have hi:q / es<xs.length:=Nat.div_lt_of_lt_mul (by rw[Nat.mul_comm];exact hq)
  have hj:q % es<es:=Nat.mod_lt _ hes
  have hx:xs[q / es]? = some xs[q / es]:=List.getElem?_eq_getElem hi
  have hjl:q % es<xs[q / es].cells.length:=by rw[hsz _ (List.getElem_mem hi)];exact hj
  obtain⟨v,hv,hr⟩:=hc (q / es) (q % es) _ _ hx (List.getElem?_eq_getElem hjl)
  have e:o+q / es*es+q % es=o+q:=by rw[Nat.add_assoc,Nat.div_add_mod']
  rw[e] at hv
  exact⟨v,_,hv,hr,hfl _ (List.getElem_mem hi) _ (List.getElem_mem hjl)⟩
 refine⟨(List.range (xs.length*es)).map fun q=>(w.cell? ⟨b,o+q,none⟩).getD Go.undef,by simp,fun j u hu=>?_,fun i j x y hx hy=>?_,fun u hu=>?_⟩
 ·rw[List.getElem?_map] at hu
  rcases Nat.lt_or_ge j (xs.length*es) with hj|hj
  ·obtain⟨u',_,hu',_⟩:=at_ j hj
   simp[hj,hu'] at hu
   rw[←hu];exact hu'
  ·simp[hj] at hu
 ·obtain⟨v,hv,hr⟩:=hc i j x y hx hy
  refine⟨v,?_,hr⟩
  have hil:i<xs.length:=by
   rcases Nat.lt_or_ge i xs.length with h'|h'
   ·exact h'
   ·rw[List.getElem?_eq_none h'] at hx;cases hx
  have hjl:j<es:=by
   rw[←hsz x (List.mem_of_getElem? hx)]
   rcases Nat.lt_or_ge j x.cells.length with h'|h'
   ·exact h'
   ·rw[List.getElem?_eq_none h'] at hy;cases hy
  have hq:i*es+j<xs.length*es:=by
   have:(i+1)*es≤xs.length*es:=Nat.mul_le_mul_right es hil
   rw[Nat.add_mul] at this
   omega
  rw[List.getElem?_map]
  rw[Nat.add_assoc] at hv
  simp[hq,hv]
 ·obtain⟨j,hj⟩:=List.getElem?_of_mem hu
  rw[List.getElem?_map] at hj
  rcases Nat.lt_or_ge j (xs.length*es) with hjl|hjl
  ·obtain⟨u',y,hu',hr,h1⟩:=at_ j hjl
   simp[hjl,hu'] at hj
   rw[←hj];exact hr.oneCell h1
  ·simp[hjl] at hj
def qrx (σ:Sto) (es:Nat):AV→Prop
 | .d (.sl xs)=>∀x∈xs,x.cells.length=es
 | .osl id _ _=>(qae σ id).isArr=true∧(qae σ id).es=es
 | .nils=>True
 | _=>False
def Qjw (σ:Sto) (es:Nat):AV→Prop
 | .osl id _ _=>(qae σ id).isOwnArr=true∧(qae σ id).es=es
 | .nils=>True
 | _=>False
theorem qqu {b o:Nat} {cs:List Value} (h:∀j v,cs[j]? = some v→w.cell? ⟨b,o+j,none⟩=some v):(loadCells ⟨b,o,none⟩ cs.length).run P w=.ok cs.toArray w:=
 run_loadCells_list w _ cs fun j v hj=>by rw[qe9];exact h j v hj
theorem ql3 (h:Rel w I μ σ) {es:Nat} (hes:0<es) {v:Value} {x:AV} (hv:qbg w I μ σ v x) (ho:qrx σ es x) :
  ∃(a:Option Addr) (c:Nat) (news:List Value),v=.slice a (x.elems σ).length c∧news.length=(x.elems σ).length*es ∧
   (∀w':World,w'.heap=w.heap→(Builtin.firstCells es (x.elems σ).length v).run P w'=.ok news.toArray w') ∧
   (∀(i j:Nat) (z y:D),(x.elems σ)[i]? = some z→z.cells[j]? = some y→∃u,news[i*es+j]? = some u∧qdk w I u y)∧(∀u∈news,u.oneCell'=true) ∧
   (∀z∈x.elems σ,z.cells.length=es)∧(∀z∈x.elems σ,z.flat)∧(∀(b o:Nat),a=some ⟨b,o,none⟩→∀j u,news[j]? = some u→w.cell? ⟨b,o+j,none⟩=some u):=by
 have none_:∀(a:Option Addr) (c:Nat),v=.slice a 0 c→x.elems σ=[]→∃(a:Option Addr) (c:Nat) (news:List Value),v=.slice a (x.elems σ).length c∧news.length=(x.elems σ).length*es ∧
   (∀w':World,w'.heap=w.heap→(Builtin.firstCells es (x.elems σ).length v).run P w'=.ok news.toArray w') ∧
   (∀(i j:Nat) (z y:D),(x.elems σ)[i]? = some z→z.cells[j]? = some y→∃u,news[i*es+j]? = some u∧qdk w I u y)∧(∀u∈news,u.oneCell'=true) ∧
   (∀z∈x.elems σ,z.cells.length=es)∧(∀z∈x.elems σ,z.flat)∧(∀(b o:Nat),a=some ⟨b,o,none⟩→∀j u,news[j]? = some u→w.cell? ⟨b,o+j,none⟩=some u):=by
  intro a c hv he
  rw[he]
  refine⟨a,c,[],hv,by simp,fun w' _=>?_,fun i j z y hz=>by simp at hz,fun u hu=>by simp at hu,fun z hz=>by simp at hz,fun z hz=>by simp at hz,fun b o _ j u hu=>by simp at hu⟩
  subst hv
  cases a with
  | none=>simp[Builtin.firstCells]
  | some a=>simp[Builtin.firstCells,loadCells,loadCellsFrom]
 have some_:∀(b o c:Nat),v=.slice (some ⟨b,o,none⟩) (x.elems σ).length c→(∀z∈x.elems σ,z.cells.length=es)→(∀z∈x.elems σ,z.flat) →
   (∀(i j:Nat) (z y:D),(x.elems σ)[i]? = some z→z.cells[j]? = some y→∃v,w.cell? ⟨b,o+i*es+j,none⟩=some v∧qdk w I v y)→∃(a:Option Addr) (c:Nat) (news:List Value),v=.slice a (x.elems σ).length c∧news.length=(x.elems σ).length*es ∧
   (∀w':World,w'.heap=w.heap→(Builtin.firstCells es (x.elems σ).length v).run P w'=.ok news.toArray w') ∧
   (∀(i j:Nat) (z y:D),(x.elems σ)[i]? = some z→z.cells[j]? = some y→∃u,news[i*es+j]? = some u∧qdk w I u y)∧(∀u∈news,u.oneCell'=true) ∧
   (∀z∈x.elems σ,z.cells.length=es)∧(∀z∈x.elems σ,z.flat)∧(∀(b o:Nat),a=some ⟨b,o,none⟩→∀j u,news[j]? = some u→w.cell? ⟨b,o+j,none⟩=some u):=by
  intro b o c hv h1 h2 h3
  obtain⟨news,n1,n2,n3,n4⟩:=Qf6 hes h1 h2 h3
  refine⟨some ⟨b,o,none⟩,c,news,hv,n1,fun w' hw'=>?_,n3,n4,h1,h2,fun b' o' he=>by simp only[Option.some.injEq,Addr.mk.injEq] at he;obtain⟨rfl,rfl,_⟩:=he;exact n2⟩
  subst hv
  have:(loadCells ⟨b,o,none⟩ news.length).run P w'=.ok news.toArray w':=qqu fun j u hj=>by
   rw[World.cell?_of_block (w:=w) (by rw[hw'])];exact n2 j u hj
  rw[n1] at this
  simpa[Builtin.firstCells] using this
 cases x with
 | d y=>
  cases y with
  | sl xs=>
   cases hv.inv_d with
   | nil a cap=>exact none_ a cap rfl rfl
   | sl b off es' cap _ vals hI hcap hes' hfl hc hr=>
    have e:xs=[]∨es'=es:=by
     cases xs with
     | nil=>exact .inl rfl
     | cons z r=>right;rw[←hes' z List.mem_cons_self];exact ho z List.mem_cons_self
    rcases e with rfl|rfl
    ·exact none_ _ cap rfl rfl
    ·refine some_ b off cap rfl hes' hfl fun i j z y hz hy=>?_
     have hz':xs[i]? = some z:=hz
     have hil:i<xs.length:=by
      rcases Nat.lt_or_ge i xs.length with h'|h'
      ·exact h'
      ·rw[List.getElem?_eq_none h'] at hz';cases hz'
     have hjl:j<es':=by
      rw[←hes' z (List.mem_of_getElem? hz')]
      rcases Nat.lt_or_ge j z.cells.length with h'|h'
      ·exact h'
      ·rw[List.getElem?_eq_none h'] at hy;cases hy
     exact⟨vals i j,hc i j hil hjl,hr i j z y hz' hy⟩
  | _=>exact ho.elim
 | nils=>cases hv;exact none_ none 0 rfl rfl
 | osl id off len=>
  obtain⟨h1,h2⟩:=ho
  have hal:qcb σ id:=by unfold qcb;cases hB:qae σ id<;>simp_all [Blk.isArr,Blk.isDead]
  cases hv with
  | osl _ _ _ _ hid hh=>
   rcases hh with⟨rfl,a,rfl⟩|⟨b,base,es',cap,q1,q2,rfl⟩
   ·exact none_ a 0 rfl (by simp[AV.elems])
   ·obtain⟨r1,r2,r3,r4,r5⟩:=q1 hal
    rw[h2] at r3
    subst r3
    have hlen:((AV.osl id off len).elems σ).length=len:=by simp[AV.elems];omega
    by_cases hz:len=0
    ·subst hz;exact none_ _ cap rfl (by simp[AV.elems])
    ·obtain⟨b',base',_,_,hμ,h5,h6,h7⟩:=h.arrOf h1 (i:=off) (by omega)
     rw[r1] at hμ
     simp only[Option.some.injEq,Prod.mk.injEq] at hμ
     obtain⟨rfl,rfl⟩:=hμ
     rw[h2] at h5 h7
     have hmem:∀z∈(AV.osl id off len).elems σ,z∈(qae σ id).xs:=fun z hz=>List.mem_of_mem_drop (List.mem_of_mem_take hz)
     refine some_ b (base+off*es) cap (by rw[hlen]) (fun z hz=>h5 z (hmem z hz)) (fun z hz=>h6 z (hmem z hz)) fun i j z y hz hy=>?_
     have hz':(qae σ id).xs[off+i]? = some z:=by
      simp only[AV.elems] at hz
      rw[List.getElem?_take] at hz
      split at hz
      ·simpa using hz
      ·cases hz
     obtain⟨v,hv,hr⟩:=h7 (off+i) j z y hz' hy
     refine⟨v,?_,hr⟩
     rw[←hv]
     congr 2
     rw[Nat.add_mul];omega
 | _=>exact ho.elim
theorem ql5 {t1 t2 ty e:TypeId} {i:TypeInfo} {e2:TypeId} (ht:P.underlying t1=some (.slice e)) (hi:P.info? e=some i) (ht2:P.underlying t2=some (.slice e2))
  {sb xa:Option Addr} {sLen sCap m c:Nat} {news:List Value} (hf:(Builtin.firstCells i.size m (.slice xa m c)).run P w=.ok news.toArray w) (hroom:sLen+m≤sCap)
  {w':World} (hst:match sb with|some a=>(storeCells (a.add (sLen*i.size)) news).run P w=.ok () w'|none=>w'=w) :
  (Builtin.append_ #[t1,t2] ty #[.slice sb sLen sCap,.slice xa m c]).run P w=.ok (.slice sb (sLen+m) sCap) w':=by
 cases sb with
 | none=>subst hst;simp[Builtin.append_,run_underlying ht,run_underlying ht2,sizeOf,typeInfo,hi,Builtin.lenOf,hroom,hf]
 | some a=>simp[Builtin.append_,run_underlying ht,run_underlying ht2,sizeOf,typeInfo,hi,Builtin.lenOf,hroom,hf,hst]
theorem qwa {t1 t2 ty e:TypeId} {i:TypeInfo} {z:Value} {e2:TypeId} (ht:P.underlying t1=some (.slice e)) (hi:P.info? e=some i) (hz:i.zero=some z) (ht2:P.underlying t2=some (.slice e2))
  {sb xa:Option Addr} {sLen sCap m c:Nat} {olds news:List Value} (hf:∀w':World,w'.heap=w.heap→(Builtin.firstCells i.size m (.slice xa m c)).run P w'=.ok news.toArray w')
  (ho:∀w':World,w'.heap=w.heap→(Builtin.firstCells i.size sLen (.slice sb sLen sCap)).run P w'=.ok olds.toArray w')
  (hg:sCap<sLen+m) (h63:sLen+m≤4611686018427387904) (hfit:(sLen+m)*i.bytes≤140737488355328) :
  (Builtin.append_ #[t1,t2] ty #[.slice sb sLen sCap,.slice xa m c]).run P w =
   .ok (.slice (some ⟨w.heap.size,0,none⟩) (sLen+m) (grownCap w (sLen+m) sCap e))
    (w.drew.alloc (.cells (olds.toArray++news.toArray++Builtin.zeroCells z.cells (grownCap w (sLen+m) sCap e-(sLen+m))) e)):=by
 have hn:¬(sLen+m≤sCap):=by omega
 have h63':¬(9223372036854775807<((sLen:Int)+(m:Int))):=by omega
 have h48:=growslice_fits hg hfit
 have h48':¬(281474976710656<Builtin.nextslicecap (sLen+m) sCap*i.bytes):=by omega
 have hf':=hf w.drew rfl
 have ho':=ho w.drew rfl
 simp[Builtin.append_,run_underlying ht,run_underlying ht2,sizeOf,typeInfo,zeroValue,hi,hz,Builtin.lenOf,hn,h63',h48',Question.forced,hf',ho',newRow,grownCap]
 congr 2
 apply Array.ext'
 simp
theorem qfk.free {w':World} (h:Rel w I μ σ) {b:Nat} (hI:¬I.fr b) (hno:∀id o,(qae σ id).own=true→μ id≠some (b,o)) (ww:qfk b w w'):Rel w' I μ σ∧qcn σ.length w I μ σ w' I μ σ:=by
 have k:qcn σ.length w I μ σ w' I μ σ:=⟨ww.os,ww.tape,ww.output,by rw[ww.size];exact Nat.le_refl _,fun _ h=>h,fun _ h=>h,fun _ h=>.inl h,fun b' hb=>ww.else_ b' (fun e=>hI (e▸hb)),fun b'=>by
  by_cases e:b'=b
  ·subst e;rw[ww.bsize];exact Nat.le_refl _
  ·rw[qeu (ww.else_ b' e)];exact Nat.le_refl _,Nat.le_refl _,fun _ _ h=>⟨h,rfl,rfl,rfl,Nat.le_refl _⟩⟩
 refine⟨⟨fun b' hb=>by rw[ww.size];exact h.imm b' hb,fun id hid=>(h.blk id hid).keep k rfl fun ho b' o hμ=>⟨ww.else_ b' (fun e=>hno id o ho (by rw[hμ,e])),fun hn=>hn⟩,h.apart⟩,k⟩
theorem Rel.addArr (h:Rel w I μ σ) {b base es:Nat} {xs:List D} (hI:¬I.fr b) (hno:∀id o,(qae σ id).own=true→μ id≠some (b,o)) (hp:qdh w b) (hn:base+xs.length*es≤qcf w b)
  (hes:∀x∈xs,x.cells.length=es) (hfl:∀x∈xs,x.flat)
  (hc:∀(i j:Nat) (x y:D),xs[i]? = some x→x.cells[j]? = some y→∃u,w.cell? ⟨b,base+i*es+j,none⟩=some u∧qdk w I u y) :
  Rel w I (qed μ σ.length (b,base)) (σ++[.arr es xs])∧qcn σ.length w I μ σ w I (qed μ σ.length (b,base)) (σ++[.arr es xs]):=by
 have k:qcn σ.length w I μ σ w I (qed μ σ.length (b,base)) (σ++[.arr es xs]):=
  ⟨rfl,rfl,rfl,Nat.le_refl _,fun _ h=>h,fun _ h=>h,fun _ h=>.inl h,fun _ _=>rfl,fun _=>Nat.le_refl _,by simp,fun id hid ha=>by
   unfold qcb at *
   rw[qa8 hid] at ha ⊢
   exact⟨ha,qc8 _ _ (by omega),rfl,rfl,Nat.le_refl _⟩⟩
 refine⟨⟨h.imm,fun id hid=>?_,?_⟩,k⟩
 ·simp only[List.length_append,List.length_cons,List.length_nil] at hid
  by_cases e:id=σ.length
  ·subst e
   rw[qb5]
   exact .inr ⟨b,base,qbt _ _ _,hI,hp,hn,hes,hfl,hc⟩
  ·have hid':id<σ.length:=by omega
   rw[qa8 hid']
   exact(h.blk id hid').keep k (qc8 _ _ e) fun _ _ _ _=>⟨rfl,fun hn=>hn⟩
 ·intro i j bi bj oi oj hij hi hj hμi hμj
  have li:=qbc hi
  have lj:=qbc hj
  simp only[List.length_append,List.length_cons,List.length_nil] at li lj
  by_cases ei:i=σ.length
  ·subst ei
   have lj':j<σ.length:=by omega
   rw[qbt] at hμi
   rw[qc8 _ _ (by omega)] at hμj
   rw[qa8 lj'] at hj
   simp only[Option.some.injEq,Prod.mk.injEq] at hμi
   obtain⟨rfl,rfl⟩:=hμi
   intro e;subst e
   exact hno j oj hj hμj
  ·have li':i<σ.length:=by omega
   rw[qc8 _ _ ei] at hμi
   rw[qa8 li'] at hi
   by_cases ej:j=σ.length
   ·subst ej
    rw[qbt] at hμj
    simp only[Option.some.injEq,Prod.mk.injEq] at hμj
    obtain⟨rfl,rfl⟩:=hμj
    intro e;subst e
    exact hno i oi hi hμi
   ·have lj':j<σ.length:=by omega
    rw[qc8 _ _ ej] at hμj
    rw[qa8 lj'] at hj
    exact h.apart i j bi bj oi oj hij hi hj hμi hμj
theorem Rel.addNone (h:Rel w I μ σ) (es:Nat):∃μ',Rel w I μ' (σ++[.arr es []])∧qcn σ.length w I μ σ w I μ' (σ++[.arr es []]):=by
 let μ':Pos:=fun i=>if i=σ.length then none else μ i
 have ne:∀i,i≠σ.length→μ' i=μ i:=fun i hi=>by simp[μ',hi]
 have k:qcn σ.length w I μ σ w I μ' (σ++[.arr es []]):=
  ⟨rfl,rfl,rfl,Nat.le_refl _,fun _ h=>h,fun _ h=>h,fun _ h=>.inl h,fun _ _=>rfl,fun _=>Nat.le_refl _,by simp,fun id hid ha=>by
   unfold qcb at *
   rw[qa8 hid] at ha ⊢
   exact⟨ha,ne _ (by omega),rfl,rfl,Nat.le_refl _⟩⟩
 refine⟨μ',⟨h.imm,fun id hid=>?_,?_⟩,k⟩
 ·simp only[List.length_append,List.length_cons,List.length_nil] at hid
  by_cases e:id=σ.length
  ·subst e
   rw[qb5]
   exact .inl ⟨by simp[μ'],rfl⟩
  ·have hid':id<σ.length:=by omega
   rw[qa8 hid']
   exact(h.blk id hid').keep k (ne _ e) fun _ _ _ _=>⟨rfl,fun hn=>hn⟩
 ·intro i j bi bj oi oj hij hi hj hμi hμj
  have li:=qbc hi
  have lj:=qbc hj
  simp only[List.length_append,List.length_cons,List.length_nil] at li lj
  by_cases ei:i=σ.length
  ·subst ei;simp[μ'] at hμi
  ·by_cases ej:j=σ.length
   ·subst ej;simp[μ'] at hμj
   ·rw[ne _ ei] at hμi
    rw[ne _ ej] at hμj
    rw[qa8 (by omega)] at hi hj
    exact h.apart i j bi bj oi oj hij hi hj hμi hμj
def qg4 (σ:Sto):AV→Sto
 | .osl id _ _=>σ.set id .dead
 | _=>σ
theorem Qmb (h:Rel w I μ σ) (s:AV):Rel w I μ (qg4 σ s)∧qcn σ.length w I μ σ w I μ (qg4 σ s)∧(qg4 σ s).length=σ.length:=by
 cases s with
 | osl id _ _=>exact⟨h.kill id,q5p id,by simp[qg4]⟩
 | _=>exact⟨h,qcn.refl _ _ _ _ (Nat.le_refl _),rfl⟩
def Qs3 (P:Program) (σ:Sto) (t1 t2:TypeId) (s x:AV):Prop:=
 match qcc P t1 with
 | some e=>match tsz P e,qbn P e,qbs P e with
  | some es,some by_,some z=>0<es∧z.cells.size=es∧(qcc P t2).isSome=true∧Qjw σ es s∧qrx σ es x∧(s.len+(x.elems σ).length)*by_≤140737488355328∧s.len+(x.elems σ).length≤4611686018427387904
  | _,_,_=>False
 | none=>False
def qqr (P:Program) (t1:TypeId):Nat:=match qcc P t1 with|some e=>(tsz P e).getD 0|none=>0
def apS (P:Program) (σ:Sto) (t1:TypeId) (s x:AV):Sto:=qg4 σ s++[.arr (qqr P t1) (s.elems σ++x.elems σ)]
def apV (σ:Sto) (s x:AV):AV:=.osl σ.length 0 (s.len+(x.elems σ).length)
theorem Qiz {e:TypeId} {es by_:Nat} {z:Value} (h1:tsz P e=some es) (h2:qbn P e=some by_) (h3:qbs P e=some z):∃i,P.info? e=some i∧i.size=es∧i.bytes=by_∧i.zero=some z:=by
 unfold tsz at h1;unfold qbn at h2;unfold qbs at h3
 cases hi:P.info? e with
 | none=>rw[hi] at h1;cases h1
 | some i=>
  rw[hi] at h1 h2 h3
  simp at h1 h2 h3
  exact⟨i,rfl,h1,h2,h3⟩
theorem Qmy {v:Value} (h:qbg w I μ σ v .nils):v=.slice none 0 0:=by cases h;rfl
theorem qu1 {v:Value} {id off len:Nat} (h:qbg w I μ σ v (.osl id off len)):id<σ.length∧((len=0∧∃a,v=.slice a 0 0) ∨
    ∃b base es cap,(qcb σ id→μ id=some (b,base)∧(qae σ id).isArr=true∧(qae σ id).es=es∧off+len≤(qae σ id).xs.length∧base+(off+cap)*es≤qcf w b) ∧
     len≤cap∧v=.slice (some ⟨b,base+off*es,none⟩) len cap):=by
 cases h with
 | osl _ _ _ _ hid hh=>exact⟨hid,hh⟩
theorem q84 (h:Rel w I μ σ) {t1 t2 ty:TypeId} {sv xv:Value} {s x:AV} (hs:qbg w I μ σ sv s) (hx:qbg w I μ σ xv x) (ho:Qs3 P σ t1 t2 s x) :
  ∃z w' μ',(Builtin.append_ #[t1,t2] ty #[sv,xv]).run P w=.ok z w'∧Rel w' I μ' (apS P σ t1 s x)∧qcn σ.length w I μ σ w' I μ' (apS P σ t1 s x)∧qbg w' I μ' (apS P σ t1 s x) z (apV σ s x):=by
 unfold Qs3 at ho
 cases hte:qcc P t1 with
 | none=>rw[hte] at ho;exact ho.elim
 | some e=>
 rw[hte] at ho
 cases hz1:tsz P e with
 | none=>simp[hz1] at ho
 | some es=>
 cases hz2:qbn P e with
 | none=>simp[hz1,hz2] at ho
 | some by_=>
 cases hz3:qbs P e with
 | none=>simp[hz1,hz2,hz3] at ho
 | some zv=>
 simp only[hz1,hz2,hz3] at ho
 obtain⟨hes,hzs,ht2,hd,hsrc,hbytes,h62⟩:=ho
 obtain⟨i,hi,i1,i2,i3⟩:=Qiz hz1 hz2 hz3
 obtain⟨e2,he2⟩:=Option.isSome_iff_exists.1 ht2
 have hu1:=qc5 hte
 have hu2:=qc5 he2
 have hap:qqr P t1=es:=by unfold qqr;rw[hte];simp[hz1]
 obtain⟨xa,xc,news,hxv,hnl,hfx,hnr,hn1,hxs,hxf,_⟩:=ql3 (P:=P) h hes hx hsrc
 have hsrcS:qrx σ es s:=by
  cases s with
  | osl id off len=>exact⟨by have:=hd.1;cases hB:qae σ id<;>simp_all [Blk.isOwnArr,Blk.isArr],hd.2⟩
  | nils=>trivial
  | _=>exact hd.elim
 obtain⟨sa,sc,olds,hsv,hol,hfs,hor,ho1,hss,hsf,hoc⟩:=ql3 (P:=P) h hes hs hsrcS
 have hlen:s.len=(s.elems σ).length:=by
  cases s with
  | nils=>rfl
  | osl id off len=>
   cases hs with
   | osl _ _ _ _ hid hh=>
    rcases hh with⟨rfl,a,rfl⟩|⟨b,base,es',cap,_,_,rfl⟩
    ·simp at hsv;exact hsv.2.1
    ·simp at hsv;exact hsv.2.1
  | _=>exact hd.elim
 obtain⟨hr1,hk1,hl1⟩:=Qmb h s
 rw[hlen] at hbytes h62
 have hV:apV σ s x=.osl σ.length 0 ((s.elems σ).length+(x.elems σ).length):=by unfold apV;rw[hlen]
 have hallsz:∀z∈s.elems σ++x.elems σ,z.cells.length=es:=fun z hz=>(List.mem_append.1 hz).elim (hss z) (hxs z)
 have hallfl:∀z∈s.elems σ++x.elems σ,z.flat:=fun z hz=>(List.mem_append.1 hz).elim (hsf z) (hxf z)
 have hjl:∀{z y:D} {j:Nat},z.cells.length=es→z.cells[j]? = some y→j<es:=fun {z y j} hz hy=>by
  rcases Nat.lt_or_ge j z.cells.length with h'|h'
  ·omega
  ·rw[List.getElem?_eq_none h'] at hy;cases hy
 have hboth:∀(i j:Nat) (z y:D),(s.elems σ++x.elems σ)[i]? = some z→z.cells[j]? = some y→∃u,(olds++news)[i*es+j]? = some u∧qdk w I u y:=fun i j z y hz hy=>by
  have hj:=hjl (hallsz z (List.mem_of_getElem? hz)) hy
  by_cases hi':i<(s.elems σ).length
  ·rw[List.getElem?_append_left hi'] at hz
   obtain⟨u,hu,hr⟩:=hor i j z y hz hy
   refine⟨u,?_,hr⟩
   have:i*es+j<olds.length:=by
    rw[hol]
    have:(i+1)*es≤(s.elems σ).length*es:=Nat.mul_le_mul_right es hi'
    rw[Nat.add_mul] at this;omega
   rw[List.getElem?_append_left this];exact hu
  ·rw[List.getElem?_append_right (by omega)] at hz
   obtain⟨u,hu,hr⟩:=hnr (i-(s.elems σ).length) j z y hz hy
   refine⟨u,?_,hr⟩
   have e3:i*es+j=olds.length+((i-(s.elems σ).length)*es+j):=by
    rw[hol,←Nat.add_assoc,←Nat.add_mul]
    congr 2;omega
   rw[e3,List.getElem?_append_right (by omega),Nat.add_sub_cancel_left];exact hu
 subst hxv;subst hsv
 unfold apS
 rw[hap,hV]
 by_cases hroom:(s.elems σ).length+(x.elems σ).length≤sc
 · -- in place
  have degen:(∃a,(Value.slice sa (s.elems σ).length sc)=.slice a 0 0)→∃z w' μ',(Builtin.append_ #[t1,t2] ty #[.slice sa (s.elems σ).length sc,.slice xa (x.elems σ).length xc]).run P w=.ok z w'∧Rel w' I μ' (qg4 σ s++[.arr es (s.elems σ++x.elems σ)]) ∧
    qcn σ.length w I μ σ w' I μ' (qg4 σ s++[.arr es (s.elems σ++x.elems σ)])∧qbg w' I μ' (qg4 σ s++[.arr es (s.elems σ++x.elems σ)]) z (.osl σ.length 0 ((s.elems σ).length+(x.elems σ).length)):=by
   rintro⟨a,ha⟩
   simp only[Value.slice.injEq] at ha
   obtain⟨rfl,hl0,rfl⟩:=ha
   have hm0:(x.elems σ).length=0:=by omega
   have e1:s.elems σ=[]:=List.eq_nil_of_length_eq_zero hl0
   have e2':x.elems σ=[]:=List.eq_nil_of_length_eq_zero hm0
   have hn0:news=[]:=List.eq_nil_of_length_eq_zero (by rw[hnl,hm0,Nat.zero_mul])
   obtain⟨μ',q1,q2⟩:=hr1.addNone es
   rw[hl1] at q2
   rw[e1,e2']
   refine⟨.slice sa 0 0,w,μ',?_,q1,hk1.trans q2,.osl _ _ _ _ (by rw[List.length_append,hl1];simp) (.inl ⟨rfl,sa,rfl⟩)⟩
   have:=ql5 (P:=P) (w:=w) (ty:=ty) hu1 hi hu2 (sb:=sa) (sLen:=0) (sCap:=0) (m:=0) (c:=xc) (xa:=xa) (news:=[]) (by have:=hfx w rfl;rw[hm0,hn0] at this;rw[i1];exact this) (Nat.le_refl 0) (w':=w) (by
    cases sa with
    | none=>rfl
    | some a=>simp[storeCells])
   simpa using this
  cases s with
  | nils=>exact degen ⟨none,Qmy hs⟩
  | osl id off len=>
   have hal:qcb σ id:=by have:=hd.1;unfold qcb;cases hB:qae σ id<;>simp_all [Blk.isOwnArr,Blk.isDead]
   have hown:(qae σ id).own=true:=by have:=hd.1;cases hB:qae σ id<;>simp_all [Blk.isOwnArr,Blk.own]
   have hlen':len=((AV.osl id off len).elems σ).length:=hlen
   generalize hE:(AV.osl id off len).elems σ=E at *
   obtain⟨hid,hh⟩:=qu1 hs
   ·rcases hh with⟨hl0,a,ha⟩|⟨b,base,es',cap,q1,q2,hv⟩
    ·exact degen ⟨a,ha⟩
    ·simp only[Value.slice.injEq] at hv
     obtain⟨rfl,hEl,rfl⟩:=hv
     obtain⟨r1,r2,r3,r4,r5⟩:=q1 hal
     have hes2:(qae σ id).es=es:=hd.2
     rw[hes2] at r3
     subst r3
     obtain⟨hbl,hnI⟩:=qjk h hid hown r1
     have hpl:qdh w b:=by
      have hb:=h.blk id hid
      cases hB:qae σ id with
      | arr es' xs'=>
       rw[hB] at hb
       rcases hb with⟨h1,_⟩|⟨b',base',h1,_,h3,_⟩
       ·rw[r1] at h1;cases h1
       ·rw[r1] at h1
        simp only[Option.some.injEq,Prod.mk.injEq] at h1
        obtain⟨rfl,rfl⟩:=h1
        exact h3
      | _=>simp[Qjw,hB,Blk.isOwnArr] at hd
     have hbnd:base+off*es+E.length*es+news.length≤qcf w b:=by
      rw[hnl]
      have h3:(off+(E.length+(x.elems σ).length))*es≤(off+sc)*es:=Nat.mul_le_mul_right es (by omega)
      rw[Nat.add_mul,Nat.add_mul] at h3
      omega
     obtain⟨w',hr,ww,hw⟩:=qiw (P:=P) (w:=w) (b:=b) (o:=base+off*es+E.length*es) (vs:=news) hpl hbnd hn1
     have hno:∀j o,(qae (qg4 σ (.osl id off len)) j).own=true→μ j≠some (b,o):=fun j o hj hμj=>by
      have hne:id≠j:=fun e=>by
       subst e
       have:=qbc hj
       simp only[qg4,List.length_set] at this
       rw[qg4,qbl this] at hj
       simp[Blk.own] at hj
      rw[qg4,qbq hne] at hj
      exact h.apart id j b b base o hne hown hj r1 hμj rfl
     obtain⟨f1,f2⟩:=qfk.free hr1 hnI hno ww
     have cellNew:∀q u,(olds++news)[q]? = some u→w'.cell? ⟨b,base+off*es+q,none⟩=some u:=fun q u hq=>by
      rw[hw]
      by_cases hlt:q<olds.length
      ·rw[List.getElem?_append_left hlt] at hq
       rw[if_neg (by rw[hol] at hlt;omega)]
       exact hoc _ _ rfl q u hq
      ·rw[List.getElem?_append_right (by omega)] at hq
       have hlt2:q-olds.length<news.length:=by
        rcases Nat.lt_or_ge (q-olds.length) news.length with h'|h'
        ·exact h'
        ·rw[List.getElem?_eq_none h'] at hq;cases hq
       rw[if_pos ⟨by rw[hol] at hlt;omega,by rw[hol] at hlt hlt2;omega⟩,←hq]
       congr 1
       rw[hol];omega
     obtain⟨g1,g2⟩:=f1.addArr (base:=base+off*es) (es:=es) (xs:=E++x.elems σ) hnI hno (ww.plain hpl) (by
      rw[ww.bsize,List.length_append]
      rw[hnl] at hbnd
      rw[Nat.add_mul];omega) hallsz hallfl (fun i j z y hz hy=>by
       obtain⟨u,hu,hr⟩:=hboth i j z y hz hy
       exact⟨u,by rw[Nat.add_assoc];exact cellNew _ u hu,hr.keep f2.imm f2.rsame⟩)
     refine⟨_,w',_,ql5 (P:=P) (w:=w) (ty:=ty) hu1 hi hu2 (by rw[i1];exact hfx w rfl) hroom (by rw[i1];simp only[qe9];exact hr),by rw[hl1] at g1;exact g1,?_,?_⟩
     ·rw[hl1] at g2 f2;exact hk1.trans (f2.trans g2)
     ·refine .osl _ _ _ _ (by rw[List.length_append,hl1];simp) (.inr ⟨b,base+off*es,es,sc,fun _=>?_,hroom,by simp⟩)
      have eb:qae (qg4 σ (.osl id off len)++[.arr es (E++x.elems σ)]) σ.length=.arr es (E++x.elems σ):=by rw[←hl1];exact qb5
      rw[eb]
      refine⟨qbt _ _ _,rfl,rfl,by simp[Blk.xs],?_⟩
      rw[ww.bsize,Nat.zero_add]
      rw[Nat.add_mul] at r5;omega
  | _=>exact hd.elim
 · -- a new array
  have hrun:=qwa (P:=P) (w:=w) (ty:=ty) hu1 hi i3 hu2 (fun w' hw'=>by rw[i1];exact hfx w' hw') (fun w' hw'=>by rw[i1];exact hfs w' hw') (Nat.lt_of_not_le hroom) h62 (by rw[i2];exact hbytes)
  have sm:qfl w w.drew:=qfl.drew w
  have hr2:=sm.rel hr1
  have hk2:qcn (qg4 σ s).length w I μ (qg4 σ s) w.drew I μ (qg4 σ s):=sm.keep
  have hcap:=grownCap_ge w ((s.elems σ).length+(x.elems σ).length) sc e
  generalize grownCap w ((s.elems σ).length+(x.elems σ).length) sc e=cap at *
  have hcsz:(olds.toArray++news.toArray++Builtin.zeroCells zv.cells (cap-((s.elems σ).length+(x.elems σ).length))).size=cap*es:=by
   simp only[Array.size_append,List.size_toArray,size_zeroCells,hzs,hol,hnl,←Nat.add_mul]
   congr 1;omega
  have hnew:=hr2.newArr (olds.toArray++news.toArray++Builtin.zeroCells zv.cells (cap-((s.elems σ).length+(x.elems σ).length))) e es (s.elems σ++x.elems σ) (by
   rw[hcsz,List.length_append];exact Nat.mul_le_mul_right es hcap) hallsz hallfl (fun i j z y hz hy=>by
    obtain⟨u,hu,hr⟩:=hboth i j z y hz hy
    refine⟨u,?_,qdk.keep (w:=w) (w':=w.drew) (I:=I) (I':=I) (fun _ h=>h) (fun _ _=>rfl) hr⟩
    have hlt:i*es+j<(olds++news).length:=by
     rcases Nat.lt_or_ge (i*es+j) (olds++news).length with h'|h'
     ·exact h'
     ·rw[List.getElem?_eq_none h'] at hu;cases hu
    rw[Array.getElem?_append_left (by simpa using hlt)]
    have:(olds.toArray++news.toArray)=(olds++news).toArray:=by simp
    rw[this];simpa using hu)
  have hk3:=qd3 hr2 (.cells (olds.toArray++news.toArray++Builtin.zeroCells zv.cells (cap-((s.elems σ).length+(x.elems σ).length))) e) (w.drew.heap.size,0) (.arr es (s.elems σ++x.elems σ))
  refine⟨_,_,_,hrun,hnew,?_,?_⟩
  ·rw[hl1] at hk2 hk3 ⊢;exact hk1.trans (hk2.trans hk3)
  ·refine .osl _ _ _ _ (by rw[List.length_append,hl1];simp) (.inr ⟨w.heap.size,0,es,cap,fun _=>?_,hcap,by simp⟩)
   have eb:qae (qg4 σ s++[.arr es (s.elems σ++x.elems σ)]) σ.length=.arr es (s.elems σ++x.elems σ):=by rw[←hl1];exact qb5
   rw[eb]
   refine⟨by rw[←hl1];exact qbt _ _ _,rfl,rfl,by simp[Blk.xs],?_⟩
   have:=qgk w.drew (olds.toArray++news.toArray++Builtin.zeroCells zv.cells (cap-((s.elems σ).length+(x.elems σ).length))) e
   have e5:w.drew.heap.size=w.heap.size:=rfl
   rw[e5] at this
   rw[this,hcsz]
   simp
end Go.AM


namespace Go.AM
variable {P:Program} {w:World} {I:Im} {μ:Pos} {σ:Sto}
theorem qnh (off:Nat):∀(vs:List Value) (k:Nat) (c:Array Value),off+k+vs.length≤c.size →
  ((vs.zipIdx k).foldl (fun(cs:Array Value) p=>cs.setIfInBounds (off+p.2) p.1) c).size=c.size ∧
  ∀q,((vs.zipIdx k).foldl (fun(cs:Array Value) p=>cs.setIfInBounds (off+p.2) p.1) c)[q]? = if off+k≤q∧q<off+k+vs.length then vs[q-(off+k)]? else c[q]?
 | [],k,c,_=>⟨rfl,fun q=>by simp only[List.zipIdx_nil,List.foldl_nil,List.length_nil,Nat.add_zero];rw[if_neg (by omega)]⟩
 | v::vs,k,c,h=>by
  simp only[List.length_cons] at h
  have ih:=qnh off vs (k+1) (c.setIfInBounds (off+k) v) (by simp;omega)
  simp only[List.zipIdx_cons,List.foldl_cons]
  refine⟨by rw[ih.1];simp,fun q=>?_⟩
  rw[ih.2 q]
  simp only[List.length_cons]
  by_cases h1:q=off+k
  ·subst h1
   rw[if_neg (by omega),if_pos (by omega),Array.getElem?_setIfInBounds_self_of_lt (by omega),Nat.sub_self]
   rfl
  ·by_cases h2:off+(k+1)≤q∧q<off+(k+1)+vs.length
   ·rw[if_pos h2,if_pos (by omega)]
    have:q-(off+k)=(q-(off+(k+1)))+1:=by omega
    rw[this];rfl
   ·rw[if_neg h2,if_neg (by omega),Array.getElem?_setIfInBounds_ne (by omega)]
theorem Qck (off:Nat) (cs:Array Value) (vs:List Value) (hv:cs=vs.toArray) (c:Array Value) (h:off+vs.length≤c.size) :
  (cs.zipIdx.foldl (fun cs (x:Value×Nat)=>cs.setIfInBounds (off+x.2) x.1) c).size=c.size ∧
  ∀q,(cs.zipIdx.foldl (fun cs (x:Value×Nat)=>cs.setIfInBounds (off+x.2) x.1) c)[q]? = if off≤q∧q<off+vs.length then vs[q-off]? else c[q]? := by
 subst hv
 have e:((vs.toArray).zipIdx.foldl (fun cs (x:Value×Nat)=>cs.setIfInBounds (off+x.2) x.1) c)=(vs.zipIdx 0).foldl (fun(cs:Array Value) p=>cs.setIfInBounds (off+p.2) p.1) c:=by
  rw[←Array.foldl_toList]
  simp
 rw[e]
 have:=qnh off vs 0 c (by simpa using h)
 simpa using this
def qe0 (cs:List AV) (off:Nat) (v:AV):Nat→List AV
 | 0=>cs
 | n+1=>(qe0 cs off v n).set (off+n) (v.cellAt n)
theorem qgd (cs:List AV) (off:Nat) (v:AV) (n:Nat):(qe0 cs off v n).length=cs.length:=by
 induction n with
 | zero=>rfl
 | succ n ih=>simp[qe0,ih]
theorem qor (cs:List AV) (off:Nat) (v:AV) (n q:Nat) (h:off+n≤cs.length):(qe0 cs off v n)[q]? = if off≤q∧q<off+n then some (v.cellAt (q-off)) else cs[q]? := by
 induction n with
 | zero=>rw[if_neg (by omega)];rfl
 | succ n ih=>
  simp only[qe0]
  by_cases e:q=off+n
  ·subst e
   rw[if_pos (by omega),List.getElem?_set_self (by rw[qgd];omega)]
   congr 2;omega
  ·rw[List.getElem?_set_ne (by omega),ih (by omega)]
   by_cases h2:off≤q∧q<off+n
   ·rw[if_pos h2,if_pos (by omega)]
   ·rw[if_neg h2,if_neg (by omega)]
def qod (pl:List (Nat×Nat)):List AV→List (Nat×AV)→List AV
 | cs,[]=>cs
 | cs,(i,v)::rest=>match pl[i]? with
  | some (off,size)=>qod pl (qe0 cs off v size) rest
  | none=>qod pl cs rest
def qql (pl:List (Nat×Nat)) (N:Nat):List (Nat×AV)→Prop
 | []=>True
 | (i,v)::rest=>(match pl[i]? with
  | some (off,size)=>v.ncells=size∧off+size≤N∧v.storable=true
  | none=>False)∧qql pl N rest
def qrf (w:World) (I:Im) (μ:Pos) (σ:Sto) (c:Array Value) (l:List AV):Prop:=
 c.size=l.length∧(∀x∈l,x.one=true)∧∀(j:Nat) (u:Value) (x:AV),c[j]? = some u→l[j]? = some x→qbg w I μ σ u x
theorem Qcm {pl:List (Nat×Nat)} {place:Nat→Option (Nat×Nat)}:∀{parts:List (Nat×AV)} {vals:List (Nat×Value)} {c:Array Value} {l:List AV},
  parts.map Prod.fst=vals.map Prod.fst→(∀i∈parts.map Prod.fst,∀p,pl[i]? = some p→place i=some p)→(∀(k:Nat) (p:Nat×AV) (q:Nat×Value),parts[k]? = some p→vals[k]? = some q→qbg w I μ σ q.2 p.2) →
  qrf w I μ σ c l→qql pl l.length parts→∃c',Instr.fill place c vals=some c'∧qrf w I μ σ c' (qod pl l parts)
 | [],vals,c,l,hf,_,_,hc,_=>by
  cases vals with
  | nil=>exact⟨c,rfl,hc⟩
  | cons _ _=>simp at hf
 | (i,v)::parts,vals,c,l,hf,hp,hr,hc,ho=>by
  cases vals with
  | nil=>simp at hf
  | cons q vals=>
   obtain⟨i',u⟩:=q
   simp only[List.map_cons,List.cons.injEq] at hf
   obtain⟨rfl,hf⟩:=hf
   obtain⟨ho1,ho2⟩:=ho
   cases hpl:pl[i]? with
   | none=>rw[hpl] at ho1;exact ho1.elim
   | some os=>
    obtain⟨off,size⟩:=os
    rw[hpl] at ho1
    obtain⟨p1,p2,p3⟩:=ho1
    have hpi:=hp i (by simp) _ hpl
    have hv:qbg w I μ σ u v:=hr 0 (i,v) (i,u) rfl rfl
    obtain⟨vs,hc1,hc2,hc3⟩:=qjy hv p3
    rw[p1] at hc2
    have hsz:u.cells.size=size:=by rw[hc1];simpa using hc2
    obtain⟨f1,f2⟩:=Qck off u.cells vs hc1 c (by rw[hc.1];omega)
    have hc':qrf w I μ σ (u.cells.zipIdx.foldl (fun cs (x:Value×Nat)=>cs.setIfInBounds (off+x.2) x.1) c) (qe0 l off v size):=by
     refine⟨by rw[f1,qgd];exact hc.1,fun x hx=>?_,fun j u' x hu hx=>?_⟩
     ·obtain⟨j,hj⟩:=List.getElem?_of_mem hx
      rw[qor _ _ _ _ _ p2] at hj
      split at hj
      ·rename_i hin
       simp only[Option.some.injEq] at hj
       subst hj
       have hlt:j-off<vs.length:=by omega
       exact(hc3 _ _ (List.getElem?_eq_getElem hlt)).2.1
      ·exact hc.2.1 x (List.mem_of_getElem? hj)
     ·rw[f2,hc2] at hu
      rw[qor _ _ _ _ _ p2] at hx
      split at hx
      ·rename_i hin
       rw[if_pos hin] at hu
       simp only[Option.some.injEq] at hx
       subst hx
       exact(hc3 _ _ hu).1
      ·rename_i hin
       rw[if_neg hin] at hu
       exact hc.2.2 j u' x hu hx
    obtain⟨c',g1,g2⟩:=Qcm (parts:=parts) (vals:=vals) hf (fun i hi p hpi=>hp i (by simp only[List.map_cons,List.mem_cons];exact .inr hi) p hpi) (fun k p q hk hq=>hr (k+1) p q hk hq) hc' (by rw[qgd];exact ho2)
    refine⟨c',?_,by simp only[qod,hpl];exact g2⟩
    simp only[Instr.fill,hpi,hsz]
    rw[if_neg]
    ·exact g1
    ·simp only[ne_eq,not_true_eq_false,decide_false,Bool.false_or,decide_eq_true_eq]
     rw[hc.1];omega
def qdl (P:Program) (t:TypeId):Option (List (Nat×Nat)):=
 match P.underlying t with
 | some (.array n e)=>(P.info? e).map fun ie=>(List.range n).map fun i=>(i*ie.size,ie.size)
 | some (.struct fields)=>fields.toList.mapM (fun f=>(P.info? f.type).map fun i=>(f.offset,i.size))
 | _=>none
def qec (P:Program) (t:TypeId):Option (List AV):=
 match qbs P t with
 | some z=>if(z.cells.toList.map qgh).all AV.one then some (z.cells.toList.map qgh) else none
 | none=>none
theorem q18 {t:TypeId} {l:List AV} (h:qec P t=some l):∃z,qbs P t=some z∧qrf w I μ σ z.cells l:=by
 unfold qec at h
 split at h
 ·rename_i z hz
  split at h
  ·rename_i hall
   simp only[Option.some.injEq] at h
   subst h
   refine⟨z,by assumption,by simp,fun x hx=>List.all_eq_true.1 hall x hx,fun j u x hu hx=>?_⟩
   rw[List.getElem?_map] at hx
   have:z.cells.toList[j]? = some u:=by simpa using hu
   rw[this] at hx
   simp at hx
   subst hx
   exact qoh u
  ·cases h
 ·cases h
theorem Qey {t:TypeId} {pl:List (Nat×Nat)} {zc:List AV} (hpl:qdl P t=some pl) (hz:qec P t=some zc) {parts:List (Nat×AV)} {vals:Array (Nat×Value)} (hf:parts.map Prod.fst=vals.toList.map Prod.fst)
  (hr:∀(k:Nat) (p:Nat×AV) (q:Nat×Value),parts[k]? = some p→vals.toList[k]? = some q→qbg w I μ σ q.2 p.2) (ho:qql pl zc.length parts) :
  ∃z,(Instr.build t vals).run P w=.ok z w∧qbg w I μ σ z (qgo (qod pl zc parts)):=by
 obtain⟨z,hz1,hz2⟩:=q18 (w:=w) (I:=I) (μ:=μ) (σ:=σ) hz
 have fin:∀place:Nat→Option (Nat×Nat),(∀i p,pl[i]? = some p→place i=some p)→(∀c,Instr.fill place z.cells vals.toList=some c→P.built t vals.toList=some c) →
   ∃z,(Instr.build t vals).run P w=.ok z w∧qbg w I μ σ z (qgo (qod pl zc parts)):=by
  intro place h1 h2
  obtain⟨c',g1,g2,g3,g4⟩:=Qcm hf (fun i _ p hp=>h1 i p hp) hr hz2 ho
  refine⟨.agg c',run_build w t vals c' (h2 c' g1),?_⟩
  have:=qjn (w:=w) (I:=I) (μ:=μ) (σ:=σ) (vs:=c'.toList) (cs:=qod pl zc parts) (by simpa using g2) g3 (fun i v x hv hx=>g4 i v x (by simpa using hv) hx)
  simpa using this
 unfold qbs at hz1
 unfold qdl at hpl
 cases hi:P.info? t with
 | none=>rw[hi] at hz1;cases hz1
 | some it=>
  rw[hi] at hz1
  have hz1':it.zero=some z:=hz1
  split at hpl
  ·rename_i n e hu
   cases hie:P.info? e with
   | none=>rw[hie] at hpl;cases hpl
   | some ie=>
    rw[hie] at hpl
    simp only[Option.map_some,Option.some.injEq] at hpl
    refine fin (fun i=>some (i*ie.size,ie.size)) (fun i p hp=>?_) fun c hc=>?_
    ·subst hpl
     rw[List.getElem?_map] at hp
     cases hri:(List.range n)[i]? with
     | none=>rw[hri] at hp;cases hp
     | some k=>
      rw[hri] at hp
      simp only[Option.map_some,Option.some.injEq] at hp
      have:=List.getElem?_eq_some_iff.1 hri
      obtain⟨_,hk⟩:=this
      simp at hk
      subst hk;rw[←hp]
    ·unfold Program.built;simp only[hi,hu,hz1',hie];exact hc
  ·rename_i fields hu
   refine fin (pl.toArray[·]?) (fun i p hp=>by simpa using hp) fun c hc=>?_
   unfold Program.built;simp only[hi,hu,hz1',hpl];exact hc
  ·cases hpl
end Go.AM


namespace Go.AM
variable {P:Program} {w:World} {I:Im} {μ:Pos} {σ:Sto}
def Qkx:List AV→Int→Int
 | [],a=>a
 | x::r,a=>Qkx r (if x.num<a then x.num else a)
def Qky:List AV→Int→Int
 | [],a=>a
 | x::r,a=>Qky r (if x.num>a then x.num else a)
def qqg:AV→IntKind
 | .d (.int k _)=>k
 | _=>.i64
def qh2:List AV→Prop
 | []=>False
 | x::r=>x.isIntv=true∧∀y∈r,y.isIntv=true
def Qvz:List AV→AV
 | []=>.undef
 | x::r=>.d (.int (qqg x) (Qkx r x.num))
def Qv1:List AV→AV
 | []=>.undef
 | x::r=>.d (.int (qqg x) (Qky r x.num))
theorem qe7 {v:Value} {u:AV} (hv:qbg w I μ σ v u) (hi:u.isIntv=true):v=.int (qqg u) u.num:=by
 cases u with
 | d x=>
  have:=hv.inv_d
  cases this<;>simp_all [AV.isIntv,AV.num,qqg]
 | _=>simp[AV.isIntv] at hi
theorem q97 (k:IntKind):∀(vs:List Value) (us:List AV) (a:Int),vs.length=us.length→(∀u∈us,u.isIntv=true)→(∀(i:Nat) (v:Value) (u:AV),vs[i]? = some v→us[i]? = some u→qbg w I μ σ v u) →
  (vs.foldlM Builtin.min2 (.int k a)).run P w=.ok (.int k (Qkx us a)) w
 | [],us,a,hl,_,_=>by cases us<;>simp_all [Qkx]
 | v::vs,us,a,hl,hi,hr=>by
  cases us with
  | nil=>simp at hl
  | cons u us=>
   have e:=qe7 (hr 0 v u rfl rfl) (hi u List.mem_cons_self)
   subst e
   simp only[List.foldlM_cons,Builtin.min2,Sem.run_bind,Sem.run_pure,Result.andThen_ok,Qkx]
   exact q97 k vs us _ (by simpa using hl) (fun y hy=>hi y (List.mem_cons_of_mem _ hy)) fun i v u hv hu=>hr (i+1) v u hv hu
theorem q98 (k:IntKind):∀(vs:List Value) (us:List AV) (a:Int),vs.length=us.length→(∀u∈us,u.isIntv=true)→(∀(i:Nat) (v:Value) (u:AV),vs[i]? = some v→us[i]? = some u→qbg w I μ σ v u) →
  (vs.foldlM Builtin.max2 (.int k a)).run P w=.ok (.int k (Qky us a)) w
 | [],us,a,hl,_,_=>by cases us<;>simp_all [Qky]
 | v::vs,us,a,hl,hi,hr=>by
  cases us with
  | nil=>simp at hl
  | cons u us=>
   have e:=qe7 (hr 0 v u rfl rfl) (hi u List.mem_cons_self)
   subst e
   simp only[List.foldlM_cons,Builtin.max2,Sem.run_bind,Sem.run_pure,Result.andThen_ok,Qky]
   exact q98 k vs us _ (by simpa using hl) (fun y hy=>hi y (List.mem_cons_of_mem _ hy)) fun i v u hv hu=>hr (i+1) v u hv hu
theorem Ql5 {ts:Array TypeId} {ty:TypeId} {vs:Array Value} {us:List AV} (hl:vs.size=us.length) (hr:∀(i:Nat) (v:Value) (u:AV),vs[i]? = some v→us[i]? = some u→qbg w I μ σ v u) (ho:qh2 us) :
  ∃z,(Builtin.min_ ts ty vs).run P w=.ok z w∧qbg w I μ σ z (Qvz us):=by
 obtain⟨vs⟩:=vs
 cases us with
 | nil=>exact ho.elim
 | cons u us=>
  cases vs with
  | nil=>simp at hl
  | cons v vs=>
   have e:=qe7 (hr 0 v u rfl rfl) ho.1
   subst e
   exact⟨_,q97 (qqg u) vs us u.num (by simpa using hl) ho.2 (fun i v u hv hu=>hr (i+1) v u (by simpa using hv) hu),.d _ _ (.int _ _)⟩
theorem Ql6 {ts:Array TypeId} {ty:TypeId} {vs:Array Value} {us:List AV} (hl:vs.size=us.length) (hr:∀(i:Nat) (v:Value) (u:AV),vs[i]? = some v→us[i]? = some u→qbg w I μ σ v u) (ho:qh2 us) :
  ∃z,(Builtin.max_ ts ty vs).run P w=.ok z w∧qbg w I μ σ z (Qv1 us):=by
 obtain⟨vs⟩:=vs
 cases us with
 | nil=>exact ho.elim
 | cons u us=>
  cases vs with
  | nil=>simp at hl
  | cons v vs=>
   have e:=qe7 (hr 0 v u rfl rfl) ho.1
   subst e
   exact⟨_,q98 (qqg u) vs us u.num (by simpa using hl) ho.2 (fun i v u hv hu=>hr (i+1) v u (by simpa using hv) hu),.d _ _ (.int _ _)⟩
def qv8 (P:Program) (t:TypeId):Option IntKind:=match P.underlying t with|some (.int k)=>some k|_=>none
theorem Qj4 {s t:TypeId} {k:IntKind} (hk:qv8 P t=some k) (hs:(P.underlying s).isSome=true) {v:Value} {u:AV} (hv:qbg w I μ σ v u) (hi:u.isIntv=true) :
  ∃z,(convert s t v).run P w=.ok z w∧qbg w I μ σ z (.d (.int k (k.wrap u.num))):=by
 have hu:P.underlying t=some (.int k):=by
  unfold qv8 at hk
  split at hk
  ·simp at hk;subst hk;assumption
  ·cases hk
 obtain⟨d,hd⟩:=Option.isSome_iff_exists.1 hs
 have e:=qe7 hv hi
 subst e
 refine⟨.int k (k.wrap u.num),?_,.d _ _ (.int _ _)⟩
 simp only[convert,Sem.run_bind,run_underlying hd,run_underlying hu,Result.andThen_ok]
 cases d<;>simp[Conv.intToInt]
def qa3 (P:Program) (t:TypeId):Option D:=
 match qbs P t with
 | some z=>if(qdb z).isD [] then some ((qdb z).toD []) else none
 | none=>none
def Qf8 (w:World) (I:Im) (len es:Nat) (c:Array Value) (xs:List D):Prop:=
 c.size=len*es∧xs.length=len∧(∀x∈xs,x.cells.length=es)∧(∀x∈xs,x.flat)∧∀(i j:Nat) (x y:D),xs[i]? = some x→x.cells[j]? = some y→∃u,c[i*es+j]? = some u∧qdk w I u y
theorem Qf7 {len es:Nat} {c:Array Value} {xs:List D} (h:Qf8 w I len es c xs) {i:Nat} (hi:i<len) {v:Value} {x:D} (hv:qdk w I v x) (hx:x.cells.length=es) :
  Qf8 w I len es (v.cells.zipIdx.foldl (fun cs (x:Value×Nat)=>cs.setIfInBounds (i*es+x.2) x.1) c) (xs.set i x):=by
 obtain⟨h1,h2,h3,h4,h5⟩:=h
 obtain⟨vs,c1,c2,c3⟩:=qkf hv
 rw[hx] at c2
 have hb:i*es+es≤len*es:=by
  have:(i+1)*es≤len*es:=Nat.mul_le_mul_right es hi
  rw[Nat.add_mul] at this;omega
 obtain⟨f1,f2⟩:=Qck (i*es) v.cells vs c1 c (by omega)
 refine⟨by rw[f1];exact h1,by simpa using h2,fun z hz=>?_,fun z hz=>?_,fun i' j z y hz hy=>?_⟩
 ·rcases List.mem_or_eq_of_mem_set hz with hz|rfl
  ·exact h3 z hz
  ·exact hx
 ·rcases List.mem_or_eq_of_mem_set hz with hz|rfl
  ·exact h4 z hz
  ·exact hv.flat
 ·have hjlt:∀z:D,z.cells.length=es→z.cells[j]? = some y→j<es:=fun z hz hy=>by
   rcases Nat.lt_or_ge j z.cells.length with h'|h'
   ·omega
   ·rw[List.getElem?_eq_none h'] at hy;cases hy
  by_cases e:i=i'
  ·subst e
   rw[List.getElem?_set_self (by omega)] at hz
   simp only[Option.some.injEq] at hz
   subst hz
   have hj:=hjlt _ hx hy
   rw[f2,if_pos (by omega)]
   have:i*es+j-i*es=j:=by omega
   rw[this]
   have hlt:j<vs.length:=by omega
   refine⟨vs[j],List.getElem?_eq_getElem hlt,?_⟩
   have:=(c3 j _ (List.getElem?_eq_getElem hlt)).1
   rwa [D.cell_of hy] at this
  ·rw[List.getElem?_set_ne e] at hz
   have hj:=hjlt z (h3 z (List.mem_of_getElem? hz)) hy
   obtain⟨u,hu,hr⟩:=h5 i' j z y hz hy
   refine⟨u,?_,hr⟩
   rw[f2,if_neg,hu]
   intro ⟨ha,hb'⟩
   rw[c2] at hb'
   rcases Nat.lt_or_gt_of_ne e with hlt|hgt
   ·have:(i+1)*es≤i'*es:=Nat.mul_le_mul_right es hlt
    rw[Nat.add_mul] at this;omega
   ·have:(i'+1)*es≤i*es:=Nat.mul_le_mul_right es hgt
    rw[Nat.add_mul] at this;omega
def qef (xs:List D):List (Nat×D)→List D
 | []=>xs
 | (i,x)::r=>qef (xs.set i x) r
theorem Qcl {len es:Nat}:∀{parts:List (Nat×D)} {vals:List (Nat×Value)} {c:Array Value} {xs:List D},parts.map Prod.fst=vals.map Prod.fst→(∀p∈parts,p.1<len∧p.2.cells.length=es) →
  (∀(k:Nat) (p:Nat×D) (q:Nat×Value),parts[k]? = some p→vals[k]? = some q→qdk w I q.2 p.2)→Qf8 w I len es c xs →
  ∃c',Instr.fill (fun i=>some (i*es,es)) c vals=some c'∧Qf8 w I len es c' (qef xs parts)
 | [],vals,c,xs,hf,_,_,hc=>by
  cases vals with
  | nil=>exact⟨c,rfl,hc⟩
  | cons _ _=>simp at hf
 | (i,x)::parts,vals,c,xs,hf,hp,hr,hc=>by
  cases vals with
  | nil=>simp at hf
  | cons q vals=>
   obtain⟨i',u⟩:=q
   simp only[List.map_cons,List.cons.injEq] at hf
   obtain⟨rfl,hf⟩:=hf
   obtain⟨p1,p2⟩:=hp (i,x) List.mem_cons_self
   have hv:qdk w I u x:=hr 0 (i,x) (i,u) rfl rfl
   obtain⟨vs,c1,c2,_⟩:=qkf hv
   have hsz:u.cells.size=es:=by rw[c1];simp only[List.size_toArray];rw[c2];exact p2
   obtain⟨c',g1,g2⟩:=Qcl (parts:=parts) (vals:=vals) hf (fun p hp'=>hp p (List.mem_cons_of_mem _ hp')) (fun k p q hk hq=>hr (k+1) p q hk hq) (Qf7 hc p1 hv p2)
   refine⟨c',?_,g2⟩
   have hb:i*es+es≤len*es:=by
    have:(i+1)*es≤len*es:=Nat.mul_le_mul_right es p1
    rw[Nat.add_mul] at this;omega
   simp only[Instr.fill,hsz]
   rw[if_neg]
   ·exact g1
   ·simp only[ne_eq,not_true_eq_false,decide_false,Bool.false_or,decide_eq_true_eq]
    rw[hc.1];omega
theorem qny {e:TypeId} {z:Value} {x:D} (h:qa3 P e=some x) (hz:qbs P e=some z) (len es:Nat) (hes:z.cells.size=es) :
  Qf8 w I len es ((Array.range (len*es)).map (z.cells[· % z.cells.size]!)) (List.replicate len x)∧x.cells.length=es∧qdk w I z x:=by
 unfold qa3 at h
 rw[hz] at h
 simp only at h
 split at h
 ·rename_i hd
  simp only[Option.some.injEq] at h
  have hrel:Rel w ⟨fun _=>False,fun _=>False,fun _ h=>h⟩ (fun _=>none) []:=⟨fun _ h=>h.elim,fun id hid=>by simp at hid,fun i j b b' o o' _ hi=>by simp[qae,Blk.own] at hi⟩
  have hr0:qdk w ⟨fun _=>False,fun _=>False,fun _ h=>h⟩ z ((qdb z).toD []):=qlz hrel (qkd z) hd (fun id hid=>by simp[qae,Blk.own])
  rw[h] at hr0
  have hr:qdk w I z x:=hr0.keep (fun _ (h:False)=>h.elim) (fun _ _=>rfl)
  obtain⟨vs,c1,c2,c3⟩:=qkf hr
  have hxl:x.cells.length=es:=by rw[←c2,←hes,c1];simp
  refine⟨⟨by simp,by simp,fun y hy=>?_,fun y hy=>?_,fun i j y y' hy hy'=>?_⟩,hxl,hr⟩
  ·rw[List.eq_of_mem_replicate hy];exact hxl
  ·rw[List.eq_of_mem_replicate hy];exact hr.flat
  ·have hi:i<len:=by
    rcases Nat.lt_or_ge i len with h'|h'
    ·exact h'
    ·rw[List.getElem?_eq_none (by simpa using h')] at hy;cases hy
   rw[List.getElem?_replicate,if_pos hi] at hy
   simp only[Option.some.injEq] at hy
   subst hy
   have hj:j<es:=by
    rcases Nat.lt_or_ge j x.cells.length with h'|h'
    ·omega
    ·rw[List.getElem?_eq_none h'] at hy';cases hy'
   have hq:i*es+j<len*es:=by
    have:(i+1)*es≤len*es:=Nat.mul_le_mul_right es hi
    rw[Nat.add_mul] at this;omega
   have hjv:j<vs.length:=by omega
   refine⟨vs[j],?_,?_⟩
   ·simp only[Array.getElem?_map,Array.getElem?_range,hq,if_true,Option.map_some]
    have e1:(i*es+j) % es=j:=by rw[Nat.mul_comm,Nat.mul_add_mod];exact Nat.mod_eq_of_lt hj
    rw[hes,e1,c1]
    simp[hjv]
   ·have:=(c3 j _ (List.getElem?_eq_getElem hjv)).1
    rwa [D.cell_of hy'] at this
 ·cases h
def Qez (P:Program) (σ:Sto) (t:TypeId) (len:Nat) (parts:List (Nat×AV)):Prop:=
 match qcc P t with
 | some e=>match tsz P e,qa3 P e,qbs P e with
  | some es,some _,some z=>0<es∧z.cells.size=es∧0<len∧len*es≤16777216∧∀p∈parts,p.1<len∧p.2.isD σ=true∧(p.2.toD σ).cells.length=es
  | _,_,_=>False
 | none=>False
def Qs1 (P:Program) (σ:Sto) (t:TypeId) (len:Nat) (parts:List (Nat×AV)):List D:=
 match qcc P t with
 | some e=>match qa3 P e with
  | some x=>qef (List.replicate len x) (parts.map fun p=>(p.1,p.2.toD σ))
  | none=>[]
 | none=>[]
def Qsm (P:Program) (σ:Sto) (t:TypeId) (len:Nat) (parts:List (Nat×AV)):Sto:=
 freezeL σ (parts.flatMap fun p=>p.2.refs)++[.arr (qqr P t) (Qs1 P σ t len parts)]
theorem qvt (h:Rel w I μ σ) {t:TypeId} {len:Nat} {parts:List (Nat×AV)} {vals:Array (Nat×Value)} (hf:parts.map Prod.fst=vals.toList.map Prod.fst)
  (hr:∀(k:Nat) (p:Nat×AV) (q:Nat×Value),parts[k]? = some p→vals.toList[k]? = some q→qbg w I μ σ q.2 p.2) (ho:Qez P σ t len parts) :
  ∃z w' I' μ',(Instr.buildSlice t len vals).run P w=.ok z w'∧Rel w' I' μ' (Qsm P σ t len parts)∧qcn σ.length w I μ σ w' I' μ' (Qsm P σ t len parts)∧qbg w' I' μ' (Qsm P σ t len parts) z (.osl σ.length 0 len):=by
 unfold Qez at ho
 cases hte:qcc P t with
 | none=>rw[hte] at ho;exact ho.elim
 | some e=>
 rw[hte] at ho
 cases hz1:tsz P e with
 | none=>simp[hz1] at ho
 | some es=>
 cases hz2:qa3 P e with
 | none=>simp[hz1,hz2] at ho
 | some x0=>
 cases hz3:qbs P e with
 | none=>simp[hz1,hz2,hz3] at ho
 | some zv=>
 simp only[hz1,hz2,hz3] at ho
 obtain⟨hes,hzs,hlen,hsmall,hp⟩:=ho
 have hap:qqr P t=es:=by unfold qqr;rw[hte];simp[hz1]
 have hX:Qs1 P σ t len parts=qef (List.replicate len x0) (parts.map fun p=>(p.1,p.2.toD σ)):=by unfold Qs1;rw[hte];simp[hz2]
 unfold Qsm
 rw[hap,hX]
 obtain⟨I',r1,r2,r3,r4,r5,r6,r7,r8⟩:=qes h (parts.flatMap fun p=>p.2.refs)
 generalize hF:freezeL σ (parts.flatMap fun p=>p.2.refs)=σ' at *
 have hrow:=(qny (w:=w) (I:=I') hz2 hz3 len es hzs).1
 obtain⟨c',g1,g2⟩:=Qcl (w:=w) (I:=I') (len:=len) (es:=es) (parts:=parts.map fun p=>(p.1,p.2.toD σ)) (vals:=vals.toList) (by rw[List.map_map];exact hf) (fun q hq=>by
   obtain⟨p,hp1,rfl⟩:=List.mem_map.1 hq
   exact⟨(hp p hp1).1,(hp p hp1).2.2⟩) (fun k q v hk hv=>by
   rw[List.getElem?_map] at hk
   cases hpk:parts[k]? with
   | none=>rw[hpk] at hk;cases hk
   | some p=>
    rw[hpk] at hk
    simp only[Option.map_some,Option.some.injEq] at hk
    subst hk
    have hm:=List.mem_of_getElem? hpk
    have:=qlz r1 ((hr k p v hpk hv).keep r2) (by rw[qng (fun id=>(r5 id).2)];exact(hp p hm).2.1) (fun id hid=>r4 id (List.mem_flatMap.2 ⟨p,hm,hid⟩) (qn1 (hp p hm).2.1 id hid))
    rwa [ql0 (fun id=>(r5 id).1)] at this) hrow
 obtain⟨i,hi,i1,i3⟩:∃i,P.info? e=some i∧i.size=es∧i.zero=some zv:=by
  unfold tsz at hz1;unfold qbs at hz3
  cases hi:P.info? e with
  | none=>rw[hi] at hz1;cases hz1
  | some i=>rw[hi] at hz1 hz3;simp at hz1 hz3;exact⟨i,rfl,hz1,hz3⟩
 have hpos:¬len*es=0:=Nat.ne_of_gt (Nat.mul_pos hlen hes)
 have hrun:=run_buildSlice (P:=P) w t e len vals c' i zv (qc5 hte) hi i3 (by rw[i1];omega) (by rw[i1];exact hpos) (by rw[i1];exact g1)
 obtain⟨q1,q2,q3,q4,q5⟩:=g2
 have hnew:=r1.newArr c' e es (qef (List.replicate len x0) (parts.map fun p=>(p.1,p.2.toD σ))) (by rw[q2,q1];exact Nat.le_refl _) q3 q4 q5
 have hk:=qd3 r1 (.cells c' e) (w.heap.size,0) (.arr es (qef (List.replicate len x0) (parts.map fun p=>(p.1,p.2.toD σ))))
 refine⟨_,_,I',_,hrun,hnew,?_,?_⟩
 ·rw[r3] at hk ⊢;exact r2.trans hk
 ·refine .osl _ _ _ _ (by rw[List.length_append,r3];simp) (.inr ⟨w.heap.size,0,es,len,fun _=>?_,Nat.le_refl _,by simp⟩)
  have eb:qae (σ'++[.arr es (qef (List.replicate len x0) (parts.map fun p=>(p.1,p.2.toD σ)))]) σ.length=.arr es (qef (List.replicate len x0) (parts.map fun p=>(p.1,p.2.toD σ))):=by rw[←r3];exact qb5
  rw[eb]
  refine⟨by rw[←r3];exact qbt _ _ _,rfl,rfl,by simp[Blk.xs,q2],?_⟩
  rw[qgk,q1];simp
theorem qq1 (h:Rel w I μ σ) {t e:TypeId} {es:Nat} (hte:qcc P t=some e) (hz:tsz P e=some es) :
  ∃z w' μ',(Instr.buildSlice t 0 #[]).run P w=.ok z w'∧Rel w' I μ' (σ++[.arr es []])∧qcn σ.length w I μ σ w' I μ' (σ++[.arr es []])∧qbg w' I μ' (σ++[.arr es []]) z (.osl σ.length 0 0):=by
 have hnew:=h.newArr #[] e es [] (by simp) (fun x hx=>by simp at hx) (fun x hx=>by simp at hx) (fun i j x y hx=>by simp at hx)
 have hk:=qd3 h (.cells #[] e) (w.heap.size,0) (.arr es [])
 refine⟨.slice (some ⟨w.heap.size,0,none⟩) 0 0,_,_,?_,hnew,hk,.osl _ _ _ _ (by simp) (.inl ⟨rfl,_,rfl⟩)⟩
 simp[Instr.buildSlice,run_underlying (qc5 hte),qcu hz,Instr.fill,newRow,Array.range_zero']
def Qu1 (P:Program) (t:TypeId) (l c:AV):Prop:=
 match qcc P t with
 | some e=>match tsz P e,qbn P e,qa3 P e,qbs P e with
  | some es,some by_,some _,some z=>z.cells.size=es∧l.isIntv=true∧c.isIntv=true∧0≤l.num∧l.num≤c.num∧(by_:Int)*c.num≤281474976710656∧c.num≤9223372036854775807
  | _,_,_,_=>False
 | none=>False
def mkZ (P:Program) (e:TypeId):Option D:=
 match qbs P e with
 | some (.slice none 0 0)=>some (.raw (.slice none 0 0))
 | _=>qa3 P e
def mkX (P:Program) (t:TypeId) (l:AV):List D:=
 match qcc P t with
 | some e=>match mkZ P e with
  | some x=>List.replicate l.num.toNat x
  | none=>[]
 | none=>[]
def mkS (P:Program) (σ:Sto) (t:TypeId) (l:AV):Sto:=σ++[.arr (qqr P t) (mkX P t l)]
theorem qwg (h:Rel w I μ σ) {t:TypeId} {lv cv:Value} {l c:AV} (hl:qbg w I μ σ lv l) (hc:qbg w I μ σ cv c) (ho:Qu1 P t l c) :
  ∃z w' μ',(Instr.makeSlice t lv cv).run P w=.ok z w'∧Rel w' I μ' (mkS P σ t l)∧qcn σ.length w I μ σ w' I μ' (mkS P σ t l)∧qbg w' I μ' (mkS P σ t l) z (.osl σ.length 0 l.num.toNat):=by
 unfold Qu1 at ho
 cases hte:qcc P t with
 | none=>rw[hte] at ho;exact ho.elim
 | some e=>
 rw[hte] at ho
 cases hz1:tsz P e with
 | none=>simp[hz1] at ho
 | some es=>
 cases hz4:qbn P e with
 | none=>simp[hz1,hz4] at ho
 | some by_=>
 cases hz2:qa3 P e with
 | none=>simp[hz1,hz4,hz2] at ho
 | some x0=>
 cases hz3:qbs P e with
 | none=>simp[hz1,hz4,hz2,hz3] at ho
 | some zv=>
 simp only[hz1,hz4,hz2,hz3] at ho
 obtain⟨hzs,li,ci,l0,lc,hb,h63⟩:=ho
 obtain⟨i,hi,i1,i2,i3⟩:=Qiz hz1 hz4 hz3
 have e1:=qe7 hl li
 have e2:=qe7 hc ci
 subst e1;subst e2
 have hap:qqr P t=es:=by unfold qqr;rw[hte];simp[hz1]
 obtain⟨x1,hx1,hxx⟩:∃x1,mkZ P e=some x1∧(x1=x0∨(zv=.slice none 0 0∧x1=.raw (.slice none 0 0))):=by
  unfold mkZ
  rw[hz3]
  split
  ·rename_i q;cases q;exact⟨_,rfl,.inr ⟨rfl,rfl⟩⟩
  ·exact⟨x0,hz2,.inl rfl⟩
 have hX:mkX P t l=List.replicate l.num.toNat x1:=by unfold mkX;rw[hte];simp[hx1]
 unfold mkS
 rw[hap,hX]
 have hrun:=run_make (P:=P) w t e i zv (qc5 hte) hi i3 (qqg l) (qqg c) l.num c.num l0 lc (by rw[i2];exact hb) h63
 obtain⟨⟨q1,q2,q3,q4,q5⟩,_,_⟩:=qny (w:=w) (I:=I) hz2 hz3 c.num.toNat es hzs
 have hle:l.num.toNat≤c.num.toNat:=by omega
 have hmc:madeCells zv.cells (c.num.toNat*i.size)=(Array.range (c.num.toNat*es)).map (zv.cells[· % zv.cells.size]!):=by rw[i1];rfl
 rw[hmc] at hrun
 generalize hC:(Array.range (c.num.toNat*es)).map (zv.cells[· % zv.cells.size]!)=C at *
 obtain⟨q3,q4,q5⟩:(∀x∈List.replicate c.num.toNat x1,x.cells.length=es)∧(∀x∈List.replicate c.num.toNat x1,x.flat)∧(∀(i j:Nat) (x y:D),(List.replicate c.num.toNat x1)[i]? = some x→x.cells[j]? = some y→∃u,C[i*es+j]? = some u∧qdk w I u y):=by
  rcases hxx with rfl|⟨rfl,rfl⟩
  ·exact⟨q3,q4,q5⟩
  ·have he1:es=1:=hzs.symm
   refine⟨fun x hx=>?_,fun x hx=>?_,fun i j x y hx hy=>?_⟩
   ·rw[(List.mem_replicate.1 hx).2,he1];rfl
   ·rw[(List.mem_replicate.1 hx).2]
    intro c hc
    have:c=D.raw (.slice none 0 0):=by simpa[D.cells] using hc
    rw[this];rfl
   ·rw[List.getElem?_replicate] at hx
    split at hx
    ·rename_i hi'
     cases hx
     have hj:j=0:=by
      cases j with
      | zero=>rfl
      | succ j=>simp[D.cells] at hy
     subst hj
     have hyx:y=D.raw (.slice none 0 0):=by simpa[D.cells] using hy.symm
     rw[hyx]
     refine⟨.slice none 0 0,?_,.raw _ rfl⟩
     have hm:∀k,(Value.slice none 0 0).cells[k % (Value.slice none 0 0).cells.size]! = .slice none 0 0:=fun k=>by
      have:k % (Value.slice none 0 0).cells.size=0:=Nat.mod_one k
      rw[this];rfl
     rw[←hC,he1]
     simp only[hm]
     simp[hi']
    ·cases hx
 have hsub:∀(i:Nat) (x:D),(List.replicate l.num.toNat x1)[i]? = some x→(List.replicate c.num.toNat x1)[i]? = some x:=fun i x hx=>by
  rw[List.getElem?_replicate] at hx ⊢
  split at hx
  ·rw[if_pos (by omega)];exact hx
  ·cases hx
 have hmem:∀x∈List.replicate l.num.toNat x1,x∈List.replicate c.num.toNat x1:=fun x hx=>by
  obtain⟨i,hi⟩:=List.getElem?_of_mem hx
  exact List.mem_of_getElem? (hsub i x hi)
 have hnew:=h.newArr C e es (List.replicate l.num.toNat x1) (by rw[q1,List.length_replicate];exact Nat.mul_le_mul_right es hle) (fun x hx=>q3 x (hmem x hx)) (fun x hx=>q4 x (hmem x hx))
  (fun i j x y hx hy=>q5 i j x y (hsub i x hx) hy)
 have hk:=qd3 h (.cells C e) (w.heap.size,0) (.arr es (List.replicate l.num.toNat x1))
 refine⟨_,_,_,hrun,hnew,hk,.osl _ _ _ _ (by simp) (.inr ⟨w.heap.size,0,es,c.num.toNat,fun _=>?_,hle,by simp⟩)⟩
 rw[qb5]
 refine⟨qbt _ _ _,rfl,rfl,by simp[Blk.xs],?_⟩
 rw[qgk,q1];simp
end Go.AM
