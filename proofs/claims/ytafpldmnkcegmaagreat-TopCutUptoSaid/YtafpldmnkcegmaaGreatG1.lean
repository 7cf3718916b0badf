/- A part of the proof: an abstract machine over data, and lemmas; nothing of the statement. No condition beyond those stated. -/
import Derived.WalkKit
import Derived.Orders
import Derived.Below
import Derived.MapKept
import Derived.Laws.StructEq
import Derived.ChangeKeysEq
import Derived.Laws.Tables
import Derived.Great.BuildSlice
import Derived.Laws.MakeOwn
set_option linter.all false

def aI{a b:Prop}(x:a)(y:b):a/\b:=And.intro x y
namespace Go.AM
structure CU (p:Prop):Prop where h:p
def A7:=@if_neg
def B5:=@List.getD_eq_getElem?_getD
def AD:=@if_pos
def AR:=@Nat.le_refl
def BP:=@List.getElem?_eq_getElem
def BF:=@Option.some.injEq
def Bi:=@List.take_of_length_le
def BL:=@List.take_length
def BH:=@List.length_set
def Bt:=@List.getElem?_eq_none
def Bb:=@List.length_append
def B9:=@Nat.lt_or_ge
def BW:=@List.length_map
def CG:=@List.mem_singleton
def C5:=@Bool.and_eq_true
def Bw:=@List.mem_cons
def C6:=@List.length_nil
def Cy:=@List.mem_cons_of_mem
def CA:=@List.map_append
def CZ:=@decide_eq_true_eq
def CT:=@List.length_cons
def CH:=@List.mem_append
def Cx:=@Bool.false_eq_true
def Bq:=@Nat.zero_le
def C4:=@List.mem_map
def EB:=@Nat.add_sub_cancel_left
def DE:=@List.mem_cons_self
def CI:=@List.mem_range
def Ec:=@List.getElem?_append_left
def DG:=@List.getElem?_map
def Dn:=@List.mem_of_getElem?
def G3:=@List.eq_nil_of_length_eq_zero
def EC:=@Nat.mul_le_mul_right
def DF:=@Option.map_some
def Ci:=@List.map_cons
def Fa:=@Option.isSome_iff_exists
def G2:=@List.getElem?_append_right
def Dw:=@Int.toNat_natCast
def GH:=@List.getElem?_take_of_lt
def EA:=@Option.getD_some
def GG:=@decide_eq_false_iff_not
def DC:=@Nat.le_trans
def EW:=@List.all_eq_true
def By:=@if_true
def Es:=@of_decide_eq_true
def En:=@List.not_mem_nil
def CF:=@if_false
def GF:=@List.getElem?_of_mem
def HB:=@Int.cast_ofNat_Int
def F_:=@Bool.eq_false_iff
def GS:=@List.mem_of_mem_take
def Ge:=@List.length_filter_le
def EO:=@Prod.mk.injEq
def F9:=@Nat.not_lt_zero
def FZ:=@List.getElem_mem
def Hv:=@List.pairwise_iff_getElem
def E9:=@List.map_nil
def Gd:=@List.getElem_of_mem
def FY:=@List.append_nil
def GD:=@List.foldl_append
def EU:=@Nat.zero_add
def E8:=@Nat.add_mul
def EP:=@Int.le_refl
def Jb:=@Array.getD_eq_getD_getElem?
def Gf:=@List.ext_getElem?
def GU:=@List.length_take
def Hx:=@List.length_singleton
def I_:=@Array.getElem?_eq_none
def FA:=@Nat.sub_self
def J4:=@List.filter_cons_of_neg
def Hw:=@List.mem_append_left
def IY:=@List.length_replicate
def GQ:=@List.foldl_cons
def GP:=@List.mem_filter
def O9:=@Array.getElem?_setIfInBounds_self_of_lt
def HA:=@Nat.lt_trichotomy
def IX:=@List.getElem?_set_ne
def Gc:=@Bool.or_eq_true
def G1:=@Nat.add_assoc
def J_:=@List.filter_cons_of_pos
def H_:=@List.getElem?_set
def H9:=@List.getElem_map
def HZ:=@List.mem_flatMap
def HY:=@List.ext_getElem
def IW:=@List.getElem?_drop
def IV:=@List.pairwise_cons
def E6:=@or_false
def JZ:=@List.pairwise_append
def JY:=@Bool.or_eq_false_iff
def IU:=@List.flatMap_cons
def HX:=@decide_eq_false
def K7:=@List.mem_of_mem_drop
def Gb:=@Nat.add_zero
def JX:=@Nat.lt_of_lt_of_le
def MZ:=@List.mem_or_eq_of_mem_set
def MY:=@Array.getElem?_eq_getElem
def Ht:=@List.nodup_nil
def Lg:=@List.getElem?_set_self
def Pb:=@Array.getElem?_setIfInBounds_ne
def Lf:=@List.take_append_drop
def GR:=@beq_iff_eq
def IZ:=@List.drop_zero
def Kr:=@List.flatMap_append
def Ja:=@List.length_drop
def Hu:=@Bool.true_and
def M_:=@Int.eq_ofNat_of_zero_le
def K8:=@Bool.not_eq_true'
def O6:=@List.getElem_append_right
def JW:=@List.nodup_cons
def Hs:=@List.map_map
def K6:=@List.any_eq_true
def O5:=@List.getElem?_cons_succ
def O4:=@List.getElem?_cons_zero
def JV:=@Bool.false_and
def JU:=@decide_eq_true
def PY:=@Classical.byContradiction
def FX:=@Ne.symm
def MX:=@List.map_congr_left
def JT:=@List.map_take
def MW:=@List.getElem_range
def PX:=@List.getElem?_replicate
def PW:=@List.pairwise_singleton
def JS:=@List.map_set
def J3:=@Nat.mul_one
def MV:=@List.append_assoc
def TK:=@List.eq_nil_iff_forall_not_mem
def FW:=@not_or
def TJ:=@List.getLast?_eq_some_getLast
def O3:=@Nat.eq_zero_or_pos
def O0:=@Nat.add_sub_cancel
def Kq:=@Bool.false_or
def Kp:=@List.any_cons
def Ld:=@List.drop_drop
def O8:=@List.pairwise_map
def TL:=@Array.getElem?_append_left
def Le:=@Bool.or_false
def O7:=@List.cons_append
def Pa:=@List.getElem?_take
def P_:=@List.filter_append
def PZ:=@List.findIdx?_cons
def RF:=@Bool.and_eq_false_iff
def RE:=@List.eq_nil_or_concat
def RD:=@List.concat_eq_append
def TD:=@List.getElem?_eq_some_iff
def Ny:=@List.range_succ
def TC:=@List.getElem_append_left
def RB:=@List.length_dropLast
def PU:=@bne_self_eq_false
def MT:=@Bool.and_true
def RA:=@List.length_pos_iff
def Nx:=@List.foldl_nil
def PT:=@List.filter_cons
def Vr:=@List.dropLast_concat_getLast
def MS:=@Nat.zero_mul
def TB:=@List.mem_append_right
def TA:=@Classical.choose_spec
def R9:=@List.length_range
def R8:=@List.nodup_append
def R7:=@List.any_eq_false
def T9:=@List.dropLast_subset
def Vq:=@List.mem_take_iff_getElem
def aY:=@List.findIdx?_eq_some_iff_getElem
def Vp:=@List.eq_of_mem_replicate
def Nw:=@Nat.sub_zero
def R6:=@List.getElem_set
def Nv:=@Nat.le_of_eq
def T8:=@List.take_succ_cons
def T7:=@List.getElem?_range
def T6:=@beq_eq_false_iff_ne
def JR:=@dif_pos
def TI:=@Option.isSome_none
def TH:=@Nat.mul_div_cancel
def MU:=@bne_iff_ne
def Nz:=@Nat.div_one
def TG:=@List.size_toArray
def Vs:=@List.set_append_right
def RC:=@Nat.mul_le_mul
def TF:=@Nat.div_add_mod'
def TE:=@Nat.div_eq_of_lt
def T2:=@Nat.mod_eq_of_lt
def R5:=@Nat.lt_irrefl
def Vj:=@List.filter_eq_self
def Vi:=@List.length_take_le
def Vh:=@List.getD_cons_zero
def aW:=@List.drop_eq_getElem_cons
def aV:=@List.findIdx?_eq_none_iff
def T1:=@Int.natCast_add
def T0:=@List.filter_nil
def aU:=@List.getLastD_eq_getLast?
def Vg:=@of_decide_eq_false
def Vf:=@not_true_eq_false
def Ve:=@Array.toList_push
def Vd:=@List.filter_congr
def Vc:=@List.all_eq_false
def Vb:=@List.reverse_cons
def aT:=@Option.map_eq_some_iff
def aS:=@List.drop_of_length_le
def Sz:=@Bool.not_true
def Sy:=@List.all_cons
def Va:=@Nat.le_of_not_lt
def V_:=@Bool.not_eq_true
def VZ:=@List.flatMap_map
def PR:=@and_assoc
def aR:=@List.dropLast_eq_take
def aQ:=@List.takeWhile_prefix
def T5:=@Nat.add_comm
def T4:=@Nat.mul_comm
def Vo:=@List.all_append
def Vn:=@Int.natCast_one
def Vm:=@List.nil_append
def T3:=@Nat.lt_trans
def aX:=@List.filter_sublist
def PS:=@and_true
def Vl:=@List.take_take
def Vk:=@Bool.not_false
def VW:=@List.take_zero
def Sx:=@List.map_id
def aH:=@List.mem_filterMap
def aG:=@List.map_replicate
def aF:=@List.set_cons_succ
def aE:=@Nat.pos_of_ne_zero
def lH:=@Int.fdiv_eq_ediv_of_nonneg
def VV:=@List.sum_cons
def lG:=@Int.tmod_eq_emod_of_nonneg
def aD:=@Function.comp_def
def aC:=@List.take_add_one
def aB:=@List.foldr_append
def aA:=@Bool.not_eq_false
def Sw:=@Nat.not_lt
def lF:=@List.getLast?_eq_getElem?
def PQ:=@dif_neg
def lD:=@List.set_eq_of_length_le
def R1:=@and_self
def Zz:=@Option.bind_some
def R0:=@true_and
def lC:=@List.length_erase_of_mem
def Zy:=@List.mem_reverse
def Zx:=@Option.getD_none
def l9:=@List.length_eq_zero_iff
def l8:=@Option.bind_eq_some_iff
def Zw:=@List.cons.injEq
def aP:=@List.any_append
def aO:=@Bool.eq_iff_iff
def aN:=@List.sum_append
def aM:=@Option.map_none
def lI:=@List.flatMap_singleton
def aL:=@List.mapM_cons
def aK:=@Bool.and_false
def aJ:=@List.take_left
def VY:=@Array.ext'
def VX:=@Int.not_lt
def Zv:=@List.map_drop
def oo{p:Prop}(h:p:=by omega):p:=h
def A6{p:Prop}(h:p:=by simp):p:=h
def AQ{p:Prop}(h:p:=by simp only;omega):p:=h
def Ap{p:Prop}(h:p:=by simp;omega):p:=h
def Ax{p:Prop}(h:p:=by kernel_rfl):p:=h
def Bz{p:Prop}(h:p:=by rw[IL (by omega) (by omega)];omega):p:=h
def Cz{p:Prop}(h:p:=by simpa using h1):p:=h
def D8{p:Prop}(h:p:=by cases h):p:=h
def D7{p:Prop}(h:p:=by decide):p:=h
def DN{p:Prop}(h:p:=by simpa using h2):p:=h
def Dc{p:Prop}(h:p:=by simpa using hc):p:=h
def Dy{p:Prop}(h:p:=by simpa using h):p:=h
def Dx{p:Prop}(h:p:=by simp[Op.operands]):p:=h
def ER{p:Prop}(h:p:=by rw[hB];rfl):p:=h
def Et{p:Prop}(h:p:=by and_intros<;>intros<;>rfl):p:=h
def Gv{p:Prop}(h:p:=by simpa using h3):p:=h
def Hb{p:Prop}(h:p:=by simpa using hl):p:=h
def Ha{p:Prop}(h:p:=by rfl):p:=h
def Ic{p:Prop}(h:p:=by simpa using h4):p:=h
def Ib{p:Prop}(h:p:=by simpa using h5):p:=h
def Ia{p:Prop}(h:p:=by simpa using c1):p:=h
def J5{p:Prop}(h:p:=by simpa using e):p:=h
def Jd{p:Prop}(h:p:=by cases hx):p:=h
def Jc{p:Prop}(h:p:=by rw[h];simp):p:=h
def Je{p:Prop}(h:p:=by rw[h2];simp):p:=h
def K9{p:Prop}(h:p:=by rw[h3];simp):p:=h
def Ku{p:Prop}(h:p:=by simp[hj]):p:=h
def Kt{p:Prop}(h:p:=by simpa using hj):p:=h
def Ks{p:Prop}(h:p:=by simp at h;omega):p:=h
def Lj{p:Prop}(h:p:=by simpa using hi):p:=h
def Li{p:Prop}(h:p:=by rw[e]):p:=h
def Lh{p:Prop}(h:p:=by simp[h]):p:=h
def Mg{p:Prop}(h:p:=by unfold Br;rw[hB];rfl):p:=h
def Mf{p:Prop}(h:p:=by simp at h):p:=h
def Me{p:Prop}(h:p:=by simp at hx):p:=h
def Md{p:Prop}(h:p:=by and_intros<;>kernel_rfl):p:=h
def Mc{p:Prop}(h:p:=by rw[<-eb];exact h1):p:=h
def Mb{p:Prop}(h:p:=by rw[CE,A7 (by omega),EB];rfl):p:=h
def Ma{p:Prop}(h:p:=by rw[QX,NU]):p:=h
def OF{p:Prop}(h:p:=by simp at h2;omega):p:=h
def OE{p:Prop}(h:p:=by simpa using he):p:=h
def OD{p:Prop}(h:p:=by rw[CE,A7 (by omega),FA];rfl):p:=h
def OC{p:Prop}(h:p:=by cases hy):p:=h
def OB{p:Prop}(h:p:=by simp[DY]):p:=h
def OA{p:Prop}(h:p:=by simpa using hz):p:=h
def Pj{p:Prop}(h:p:=by simpa using hn):p:=h
def Ph{p:Prop}(h:p:=by simpa using hv):p:=h
def Pg{p:Prop}(h:p:=by simp[BJ,DJ]):p:=h
def Pf{p:Prop}(h:p:=by rw[GU];omega):p:=h
def Pe{p:Prop}(h:p:=by rw[h1];simp):p:=h
def Pd{p:Prop}(h:p:=by simp[bd0] at h):p:=h
def Pc{p:Prop}(h:p:=by have:=hids _ hm;omega):p:=h
def RN{p:Prop}(h:p:=by simp at hv):p:=h
def RM{p:Prop}(h:p:=by simp[G8] at h):p:=h
def RL{p:Prop}(h:p:=by rw[Ja];omega):p:=h
def RK{p:Prop}(h:p:=by simp[binOp,Op.intCmp]):p:=h
def RJ{p:Prop}(h:p:=by cases hb.Ar;rfl):p:=h
def RI{p:Prop}(h:p:=by simp at hu):p:=h
def RH{p:Prop}(h:p:=by simp[Blk.xs]):p:=h
def RG{p:Prop}(h:p:=by simp[hi]):p:=h
def WB{p:Prop}(h:p:=by simpa using hy):p:=h
def RV{p:Prop}(h:p:=by simp[Op.bytesLess] at h):p:=h
def RU{p:Prop}(h:p:=by rw[hb];rfl):p:=h
def RT{p:Prop}(h:p:=by rw[hs,hi,hc];rfl):p:=h
def RS{p:Prop}(h:p:=by rw[h1];exact h2):p:=h
def RR{p:Prop}(h:p:=by rw[hj];exact hd):p:=h
def RQ{p:Prop}(h:p:=by cases hj):p:=h
def RP{p:Prop}(h:p:=by simp[hol]):p:=h
def RO{p:Prop}(h:p:=by simp[Ec hj]):p:=h
def TX{p:Prop}(h:p:=by simp[hlen];omega):p:=h
def TW{p:Prop}(h:p:=by rw[hB'];rfl):p:=h
def TV{p:Prop}(h:p:=by unfold BR;rw[hu]):p:=h
def TU{p:Prop}(h:p:=by simpa using hs):p:=h
def TT{p:Prop}(h:p:=by cases h;rfl):p:=h
def TS{p:Prop}(h:p:=by rw[Bb,hl1];simp):p:=h
def TR{p:Prop}(h:p:=by simpa using g2):p:=h
def TQ{p:Prop}(h:p:=by rw[i1];omega):p:=h
def TP{p:Prop}(h:p:=by rw[e];exact h):p:=h
def TO{p:Prop}(h:p:=by rw[<-eb];simpa using h2):p:=h
def TN{p:Prop}(h:p:=by simp at h1;omega):p:=h
def TM{p:Prop}(h:p:=by rw[B5,hcj];rfl):p:=h
def W6{p:Prop}(h:p:=by simp only[binOp,ne_eq,Vf,CF,Op.intBits,Sem.run_pure]):p:=h
def W5{p:Prop}(h:p:=by unfold D2;rw[hte];simp[hz1]):p:=h
def W4{p:Prop}(h:p:=by rw[<-hl1];exact Cd):p:=h
def W3{p:Prop}(h:p:=by simpa using h'):p:=h
def W2{p:Prop}(h:p:=by simpa using hsz):p:=h
def W1{p:Prop}(h:p:=by rw[hp];exact h1):p:=h
def Vz{p:Prop}(h:p:=by unfold A1;rw[B5,Bt h'];rfl):p:=h
def Vy{p:Prop}(h:p:=by simp at h3;omega):p:=h
def Vx{p:Prop}(h:p:=by rcases hal with rfl|rfl<;>rfl):p:=h
def Vw{p:Prop}(h:p:=by rw[hat];decide):p:=h
def Vv{p:Prop}(h:p:=by rw[<-eb];exact h2):p:=h
def Vu{p:Prop}(h:p:=by simpa using hk2):p:=h
def Vt{p:Prop}(h:p:=by rw[q19 h] at h18;cases h18):p:=h
def WA{p:Prop}(h:p:=by rw[Ux];exact h):p:=h
def W9{p:Prop}(h:p:=by simpa using ha):p:=h
def W8{p:Prop}(h:p:=by rw[NU];exact h.A_):p:=h
def W7{p:Prop}(h:p:=by rw[QX];exact h.A_):p:=h
def bA{p:Prop}(h:p:=by rw[E8];omega):p:=h
def b9{p:Prop}(h:p:=by unfold Br;cases hB:A1 σ id<;>simp_all [Blk.AY,Blk.AP]):p:=h
def b7{p:Prop}(h:p:=by simp[binOp,Op.intArith]):p:=h
def ay{p:Prop}(h:p:=by simp[Instr.sliceAt,run_underlying hu]):p:=h
def ax{p:Prop}(h:p:=by simpa[Ez,Op.operands] using hgd):p:=h
def aw{p:Prop}(h:p:=by have:=CI.1 hj;omega):p:=h
def av{p:Prop}(h:p:=by simp[BE,QG,Nt,Nu,ki]):p:=h
def au{p:Prop}(h:p:=by rw[QR];simpa using hl):p:=h
def aq{p:Prop}(h:p:=by obtain⟨y,_,rfl⟩:=C4.1 hx;rfl):p:=h
def ao{p:Prop}(h:p:=by rw[hs,hi];simpa using hc):p:=h
def ak{p:Prop}(h:p:=by rwa [CP _ _ e] at h1):p:=h
def aj{p:Prop}(h:p:=by simp only at q2;omega):p:=h
def ai{p:Prop}(h:p:=by simp only at q1;omega):p:=h
def ah{p:Prop}(h:p:=by rw[BH];exact AG rfl hj):p:=h
def ab{p:Prop}(h:p:=by simp only at hj;omega):p:=h
def aa{p:Prop}(h:p:=by rw[CG.1 hj];omega):p:=h
def a_{p:Prop}(h:p:=by rw[T6];exact h6):p:=h
def aZ{p:Prop}(h:p:=by have:=hO.Ed x hx;omega):p:=h
def lf{p:Prop}(h:p:=by simp[AV.cellAt,D.cell,B5,hy]):p:=h
def l_{p:Prop}(h:p:=by rw[<-BP hlt];congr 1;omega):p:=h
def lZ{p:Prop}(h:p:=by simp[binOp,Op.equal,Op.maxDepth,run_equalIn_bool' w 9999 t c c' h4]):p:=h
def lY{p:Prop}(h:p:=by unfold Br;cases hB:A1 σ id<;>simp_all [Blk.B7,Blk.AP]):p:=h
def lX{p:Prop}(h:p:=by rw[T4,Nat.mul_add_mod];exact T2 hj):p:=h
def lW{p:Prop}(h:p:=by cases q<;>first|exact hT|exact absurd rfl hq):p:=h
def lV{p:Prop}(h:p:=by simp only[execOp,resolve,invoke,Sem.run_bind,Sem.run_pure,Result.andThen_ok];rfl):p:=h
def lU{p:Prop}(h:p:=by simp[Op.operands,Call.operands];exact .inr (by simpa using hy)):p:=h
def lS{p:Prop}(h:p:=by rw[AD ha];exact⟨h2,h3,h4,h5,rfl,rfl⟩):p:=h
def lP{p:Prop}(h:p:=by unfold Br at ha;cases hb:(A1 S id).AP with|true=>simp_all|false=>rfl):p:=h
def lN{p:Prop}(h:p:=by have:=h2 (hal ha).1;rw[(hal ha).2] at this;exact this):p:=h
def lL{p:Prop}(h:p:=by rw[<-eb];clear eb hi hb;simp only[Q6, *];rfl):p:=h
def lK{p:Prop}(h:p:=by rw[B5,Ec e,<-B5]):p:=h
def lJ{p:Prop}(h:p:=by have:=hb x hx;show -_<=_/\_<=_;split<;>omega):p:=h
def mB{p:Prop}(h:p:=by rw[T6];exact λh=>e h.symm):p:=h
def mA{p:Prop}(h:p:=by rw[CG.1 hj];exact AR _):p:=h
def lz{p:Prop}(h:p:=by obtain⟨ys,h1,_⟩:=hg.ar;have:=AG h1 rfl;omega):p:=h
def ly{p:Prop}(h:p:=by rw[Ja,GU];omega):p:=h
def lx{p:Prop}(h:p:=by have:=Wx e g hg h D x;rw[nxK,CT];omega;all_goals simp):p:=h
def lu{p:Prop}(h:p:=by obtain⟨r,rfl⟩:=hrm x hx;intro c hc;simp only[D.cells,CG] at hc;subst hc;rfl):p:=h
def ln{p:Prop}(h:p:=by rw[CY l k (by omega),tlR,GD];rfl):p:=h
def ll{p:Prop}(h:p:=by rw[MQ,A7 (by simpa using hc)];rw[show x=(x.1,x.2) from rfl] at *;rw[hp]):p:=h
def lg{p:Prop}(h:p:=by simp[PX];split<;>simp_all):p:=h
def Ag{p q:Prop}(k:q)(h:CU q->p:=by
 intro hh
 repeat((with_reducible apply aI);exact sdp)
 exact hh.1):p:=h ⟨k⟩
def Cu{p q:Prop}(k:q)(h:CU q->p:=by
 intro hh
 refine AWp.seq (Bu rfl _ _ _ _ ?_)
 simp only[zF,seval]
 exact hh.1):p:=h ⟨k⟩
def Cf{p q:Prop}(k:q)(h:CU q->p:=by
 intro hh
 refine AWp.seq (Bu rfl _ _ _ _ ?_)
 exact hh.1):p:=h ⟨k⟩
def BT{p q:Prop}(k:q)(h:CU q->p:=by
 intro hh
 refine⟨_,_,Ei,?_,rfl⟩
 exact hh.1):p:=h ⟨k⟩
def cD{p:Prop}(h:p:=by (first|exact⟨H,AU rfl,o1,o7⟩|exact⟨H,AU rfl,o1 hp.1,o7⟩|exact⟨H,AU rfl,o1 y1,o7⟩|exact⟨H,AU rfl,o1,o7 hp.1⟩|exact⟨H,AU rfl,o1,o7 hp.2⟩|exact⟨H,AU rfl,o1,o7 y7⟩|exact⟨H,AU rfl,o1 y1,o7 y7⟩)):p:=h
def Th{p:Prop}(h:p:=by
 intro q v hq
 have hlq:=AG hq rfl
 have m1:=AX g1 hq A6
 have m2:=AX c3 hq A6
 have m3:=AX c2 hq A6
 have m4:=AX c1 hq A6
 first|(simp only[CE,BH,AD hlq,Py,m1,m2,m3,m4,false_and,CF];exact hq)|exact hk6 q _ ((As m1).trans hq) A6 A6):p:=h
def D0{p:Prop}(h:p:=by exact⟨_,_,Ei,rfl,rfl⟩):p:=h
def C0{p q:Prop}(k:q)(h:CU q->p:=by
 intro hh
 simp only[zF,seval]
 exact hh.1):p:=h ⟨k⟩
def cC{p:Prop}(h:p:=by
 induction i using Nat.strongRecOn with
 | _ i ih=>
  rcases B9 i all.size with hi|hi
  ·cases hl:listed.getD i true with
   | true=>rfl
   | false=>
    exfalso
    have:i∈Region.ready .any all listed:=Kc.2 ⟨hi,hl,all[i],MY hi,λe he hb=>by
     have hlt:=Uv ht (MY hi) e he hb
     rw[MC oo]
     exact ih _ hlt⟩
    rw[hrd] at this;cases this
  simp[hsz,Sw.2 hi]):p:=h
def Eu{p q:Prop}(k:q)(h:CU q->p:=by
 intro hh
 refine Bu rfl _ _ _ _ ?_
 exact hh.1):p:=h ⟨k⟩
def Gw{p q:Prop}(k:q)(h:CU q->p:=by
 intro hh
 refine BA [] [] rfl Ht ?_ rfl
 exact hh.1):p:=h ⟨k⟩
def OJ{p:Prop}(h:p:=by simp only[zT,seval,f1,f2,f3,f4,f5,m1,m2,m3,m4,m5,n1,n2,n3,n4,n5,n6,n7,n1.symm,n2.symm,n3.symm,n4.symm,n5.symm,n6.symm,n7.symm]):p:=h
def pM{p:Prop}(h:p:=by
 obtain⟨j,b⟩:=jb
 rw[hg] at h
 simp only at h
 by_cases ha:Ea o.op=true
 ·rw[AD ha] at h
  obtain⟨h1,h2,h3,h4,h5,h6⟩:=h
  exact .inl ⟨.iff true (opV P Gl σ env o.op),opS P Gl σ env o.op,by simp only[Fi,hg,AD ha];exact⟨h1,h2,h3,h4,h5,trivial,trivial⟩,h6⟩
 simp only[A7 ha] at h
 cases hc:Ch o.op with
 | true=>
  simp only[hc,By] at h
  obtain⟨h1,h2,h3,h4,r0,h5,h6⟩:=h
  exact .inl ⟨_,σ,by simp only[Fi,hg,A7 ha,hc,By];exact⟨h1,h2,h3,h4,trivial,r0,rfl,h5⟩,h6⟩
 | false=>
  simp only[hc,Cx,CF] at h
  obtain⟨h1,h2,h3,h4,h5,h6⟩:=h
  exact .inl ⟨_,σ,by simp only[Fi,hg,A7 ha,hc,Cx,CF];exact⟨h1,h2,h3,h4,trivial,_,rfl,λht=>⟨h5 ht,rfl⟩⟩,h6⟩):p:=h
def G4{p:Prop}(h:p:=by simp[Ab,Ch,Ez,gdL,Op.operands,PR]):p:=h
def WV{p:Prop}(h:p:=by
 rw[hμ] at h1
 simp only[BF,EO] at h1
 obtain⟨rfl,rfl⟩:=h1
 refine⟨?_,h2⟩
 rcases B9 b w.heap.size with h'|h'
 ·exact h'
 rw[I_ h'] at h3;cases h3):p:=h
def pL{p:Prop}(h:p:=by
 refine⟨.inl Ax,?_⟩
 refine Ak (Wl x) ?_
 simp only[zU,seval,hs0,l0]
 refine eU Ax ((yp (hI1.FP _ _ hn) (hnk1 _ _ hn).1 (by have:=(hnk1 _ _ hn).2;omega) (Am x.lo) x.A0).mono λr s3 hr=>?_)
 obtain⟨rfl,c3,q1,q2,q3⟩:=hr
 simp only[zU,seval,a_w ((k:Int)+1)]
 refine⟨(k+1,s3),⟨h,?_⟩,AQ,AU ?_⟩
 ·simp only
  rw[hs1,hE,wkR,AD (by simpa using hkk),hn]
  exact⟨_,_,_,hI1.Ev hn q1 q2 q3⟩
 rw[hs2]
 simp only[zU,seval,a_w ((k:Int)+1)]):p:=h
def Rc{p:Prop}(h:p:=by
 rw[A7 Cz]
 refine BA [] [0,1] rfl A6 ?_ rfl
 simp only[zU,seval,a_w ((k:Int)+1)]
 try rfl):p:=h
def WU{p:Prop}(h:p:=by
 simp only[zU,seval,a_w ((k:Int)+1)]
 try rfl):p:=h
def pK{p:Prop}(h:p:=by
 rw[hw]
 by_cases hlt:q<olds.length
 ·rw[Ec hlt] at hq
  rw[A7 (by rw[hol] at hlt;omega)]
  exact hoc _ _ rfl q u hq
 rw[G2 oo] at hq
 have hlt2:q-olds.length<news.length:=by
  rcases B9 (q-olds.length) news.length with h'|h'
  ·exact h'
  rw[Bt h'] at hq;cases hq
 rw[AD ⟨by rw[hol] at hlt;omega,by rw[hol] at hlt hlt2;omega⟩,<-hq]
 congr 1
 rw[hol];omega):p:=h
def pJ{p:Prop}(h:p:=by
 subst hn
 apply Gf
 intro j
 rcases B9 j ys.length with hj|hj
 ·rw[Y6 _ _ _ _ _ Kt,DG]
  by_cases hji:j<i
  ·rw[A7 oo,Ec Ap,GH hji,Af _ _ _ hj]
   simp[hj]
  rw[AD oo,G2 Ap]
  rw[PX,AD Ap];rfl
 rw[Bt (by rw[QZ];simpa using hj),Bt Ap]):p:=h
def Ji{p:Prop}(h:p:=by simp only[zS,seval,H.ti,H.te,H.tk,H.tz]):p:=h
def Ce{p q:Prop}(k:q)(h:CU q->p:=by
 intro hh
 simp only[zC,seval]
 exact hh.1):p:=h ⟨k⟩
def Bby{p:Prop}(h:p:=by
 refine⟨_,_,Dh [] [0] rfl A6 (show BJ _ _ _=AV.d _ from rfl) (HS hst _),?_,rfl⟩
 rw[Dt,A7 he,A7 (by rw[XA _ l k h Dc];simp)]):p:=h
def Hd{p q:Prop}(k:q)(h:CU q->p:=by
 intro hh
 refine AWp.seq (AWp.seq (Bu rfl _ _ _ _ ?_))
 exact hh.1):p:=h ⟨k⟩
def pO{p:Prop}(h:p:=by
 intro i
 induction i using Nat.strongRecOn with
 | _ i ihi=>
  intro hi
  cases hl:listed.getD i true with
  | true=>rfl
  | false=>
   exfalso
   have:i∈Region.ready .any all listed:=Kc.2 ⟨hi,hl,all[i],MY hi,λe he hb=>by
    have hlt:=r9 hck (MY hi) e he hb
    rw[MC oo]
    exact ihi _ hlt oo⟩
   rw[hrd] at this;cases this):p:=h
def pN{p:Prop}(h:p:=by
 have e2:σ.set id (.arr es xs)=σ:=by
  apply Gf
  intro i
  by_cases e:id=i
  ·subst e
   rw[Lg hid]
   unfold A1 at hB
   rw[B5,BP hid] at hB
   simp only[EA] at hB
   rw[BP hid,hB]
  rw[IX e]
 rw[e2];exact⟨h,Ay.refl _ _ _ _ (AR _)⟩):p:=h
def WX{p:Prop}(h:p:=by
 refine⟨_,_,Dh [] [0] rfl A6 (show BJ _ _ _=AV.d _ from rfl) (HS hst _),?_,rfl⟩
 have he:e≠0:=OE
 rw[Dt,AD he]):p:=h
def Ti{p:Prop}(h:p:=by
 rcases B9 j x.cells.length with h'|h'
 ·exact h'
 rw[Bt h'] at hy;cases hy):p:=h
def Bb4{p:Prop}(h:p:=by rw[hb 2 (rE lL) oo]):p:=h
def EE{p q:Prop}(k:q)(h:CU q->p:=by
 intro hh
 simp only[zC,seval,B6]
 exact hh.1):p:=h ⟨k⟩
def WW{p:Prop}(h:p:=by
 refine⟨_,_,Dh [] [0] rfl A6 (show BJ _ _ _=AV.d _ from rfl) rfl,?_,rfl⟩
 rfl):p:=h
def Bb7{p q:Prop}(k:q)(h:CU q->p:=by
 intro hh
 simp only[zC,seval,(oo:(k:Int)<l.length),h,Af _ _ _ (oo:k<l.length),<-eb]
 exact hh.1):p:=h ⟨k⟩
def FO{p:Prop}(h:p:=by exact⟨0,AU rfl⟩):p:=h
def Bb9{p:Prop}(h:p:=by
 refine⟨ao,?_⟩
 refine BA [] [0] rfl A6 ?_ (HS hst _)
 simp only[zB,seval,a_w ((k:Int)+1)]
 rfl):p:=h
def Tf{p:Prop}(h:p:=by constructor<;>first|exact⟨_,rfl,Ax,Ax,Ax,Ax⟩|kernel_rfl):p:=h
def WT{p q:Prop}(k:q)(h:CU q->p:=by
 intro hh
 simp only[zF,seval,a_w ((k:Int)+1)]
 exact hh.1):p:=h ⟨k⟩
def Bcc{p:Prop}(h:p:=by
 simp only[zF,seval,a_w ((c:Int)+1)]
 exact⟨c+1,oo,oo,by rw[hbs];exact AU rfl⟩):p:=h
def Rb{p q:Prop}(k:q)(h:CU q->p:=by
 intro hh
 simp only[zU,seval,(oo:(k:Int)<l.length),h,Af _ _ _ (oo:k<l.length),hxx,a_w ((k:Int)+1)]
 exact hh.1):p:=h ⟨k⟩
def Ml{p:Prop}(h:p:=by simp[Ab,Ch,Ez,gdL,Op.operands,F5,Ea,PR]):p:=h
def pB{p:Prop}(h:p:=by
 simp only[BE] at ho
 split at ho
 ·rename_i ik e h1
  obtain⟨w',h3,h4,h5⟩:=rC (P:=P) hR h1 (U (x:=m) Dx A6) (U (x:=k) Dx A6) (U (x:=x) Dx A6) ho.1 ho.2
  exact⟨Go.undef,w',I,μ,.inr ⟨by simp[execOp,h3],rfl⟩,h4,h5,.undef _⟩
 exact ho.elim):p:=h
def pA{p:Prop}(h:p:=by
 unfold ndF
 have:=U7 (Ah l.parts) (AI l.parts) (AI l.parts).length x
 split
 ·have h2:=Wi (D9 (edF (Ah l.parts) (AI l.parts) (AI l.parts).length x)) (D9 (edF (Ah l.parts) (AI l.parts) (AI l.parts).length x)).length
  have h3:=QS (edF (Ah l.parts) (AI l.parts) (AI l.parts).length x)
  unfold cpS;omega
 omega):p:=h
def Mk{p:Prop}(h:p:=by simp only[zU,seval,a_w ((k:Int)+1)]):p:=h
def p9{p:Prop}(h:p:=by
 rw[A7 Dc] at hst
 simp only[zK,seval,a_w ((j:Int)+1)]
 refine⟨(j+1,_),⟨AQ,?_,?_⟩,AQ,AU ?_⟩
 rotate_left 2
 ·rw[hsn,hst];rfl
 ·rw[hsn,hst]
  simp only
  rw[CE,AD lQ];exact hQ
 exact hf2.trans (Fr.app _ _) A6):p:=h
def p8{p:Prop}(h:p:=by
 simp only
 rw[CE,A7 A6]
 simp only[BH]
 rw[EB,Bi (by simp only[BW,Bb];omega),hkst,<-MV,CA (l₁:=DI l j++JF l p k),List.map_singleton,hkt,hkr]
 rfl):p:=h
def Kz{p:Prop}(h:p:=by exact BA [] [0] rfl A6 rfl rfl):p:=h
def cB{p:Prop}(h:p:=by
 refine⟨_,_,Dh [] [0] rfl A6 (show BJ _ _ _=AV.d _ from rfl) rfl,?_,rfl⟩
 rw[QP h hi hc]):p:=h
def oz{p:Prop}(h:p:=by
 have hkl:k<l.length:=by
  rcases B9 k l.length with h'|h'
  ·exact h'
  rw[Bt h'] at hk';cases hk'
 have:=(hc k oo).1
 simp only[AV.cellAt,B5,hk',EA] at this
 exact this):p:=h
def oy{p:Prop}(h:p:=by
 refine⟨(j+1,_),⟨AQ,?_,?_⟩,AQ,AU ?_⟩
 rotate_left 2
 ·rw[hsn,hst];rfl
 ·rw[hsn,hst]
  simp only
  rw[CE,BH,AD lQ,BX lQ,JS]
 exact(hf2.set _ A6).trans (Fr.app _ _) A6):p:=h
def cA{p:Prop}(h:p:=by
 refine AU ?_
 simp only[zT,seval,Ef,Er]):p:=h
def c9{p:Prop}(h:p:=by
 by_cases e:j=i
 ·subst e;rw[AD rfl];simp[h]
 rw[A7 e];simp only[B5,H_,A7 (λe1:i=j=>e e1.symm)]):p:=h
def ox{p:Prop}(h:p:=by
 refine⟨(i+1,vs),⟨AQ,.inl AQ,K,hV,?_,?_⟩,AQ,AU ?_⟩
 ·simp only;rw[show min (i+1) b=i+1 from oo];exact d1
 ·simp only;rw[show min (i+1) b=i+1 from oo];exact d2
 simp only[zS,seval,H.ti,H.te,H.tk,H.tz,e3]):p:=h
def c8{p:Prop}(h:p:=by rw[Bt h'] at hy;cases hy):p:=h
def Pq{p q:Prop}(k:q)(h:CU q->p:=by
 intro hh
 refine AWp.seq (AWp.block ?_)
 exact hh.1):p:=h ⟨k⟩
def ou{p:Prop}(h:p:=by
 rw[CY l k h,aP]
 simp only[Kp,List.any_nil,Le]
 by_cases e:n=(l.getD k default).id
 ·rw[AD e,e];simp
 rw[A7 e]
 have:((l.getD k default).id==n)=false:=mB
 rw[this,Le]):p:=h
def WS{p:Prop}(h:p:=by
 refine BA [] [0] rfl A6 ?_ (HS hst _)
 simp only[zB,seval,HB]
 rfl):p:=h
def Lp{p:Prop}(h:p:=by exact⟨_,_,Bg.refl _ _ _,rfl,rfl⟩):p:=h
def bz{p:Prop}(h:p:=by
 obtain⟨rfl,c3,h5,h6,h7⟩:=hr
 simp only[zU,seval]
 exact⟨_,_,Bg.refl _ _ _,rfl,c3,h5,hf4.trans h6 hin,hout h7 hf4.1⟩):p:=h
def bu{p:Prop}(h:p:=by
 have:Bn [i] j=none:=by simp[Bn,e]
 rw[this,A7 e]
 have hj:j<S.length:=oo
 simp only[hj,By]
 unfold A1
 simp[hj]):p:=h
def ot{p:Prop}(h:p:=by
 subst ei
 have lj':j<σ.length:=oo
 rw[Eh] at hμi
 rw[H8 _ _ oo] at hμj
 rw[BB lj'] at hj
 simp only[BF,EO] at hμi
 obtain⟨rfl,rfl⟩:=hμi
 intro e;subst e
 exact hno j oj hj hμj):p:=h
def pI{p:Prop}(h:p:=by
 simp only
 rw[CE,A7 A6,hstep,GJ,AD hv0]
 simp only[BH,EB]
 show Blk.arr 8 (List.take k _++_)=_
 rw[Bi RP,CA,JS];rfl):p:=h
def Tg{p q:Prop}(k:q)(h:CU q->p:=by
 intro hh
 simp only[Instr.loadAt,Instr.sureAddr,Sem.run_bind,Sem.run_pure,Result.andThen_ok]
 exact hh.1):p:=h ⟨k⟩
def pH{p:Prop}(h:p:=by
 simp only
 rw[CE,A7 A6,hstep,GJ,A7 (by simpa using hv0)]
 simp only[BH,EB]
 show Blk.arr 8 (List.take k _++_)=_
 rw[Bi RP,CA];rfl):p:=h
def Bc3{p:Prop}(h:p:=by simp only[zC,seval,HB]):p:=h
def pG{p:Prop}(h:p:=by exact NV l2 rest _ _ h2 q1 (hG.AH q2) ((hE.AH q2).AJ hd (.iff true _ _ (λ_=>q3) (λh=>D8))) (DC hm q2.len) λenv' σ2 w2 I2 μ2 a2 k1 k2 k3 k4 k5=>hq env' σ2 w2 I2 μ2 a2 k1 k2 k3 k4 ((q2.mono hm).trans k5)):p:=h
def pF{p:Prop}(h:p:=by exact Kd rest _ _ h2 q1 (hG.AH q2) ((hE.AH q2).AJ hd (.iff true _ _ (λ_=>q3) (λh=>D8))) (DC hm q2.len) λenv' σ2 w2 I2 μ2 a2 k1 k2 k3 k4 k5=>hq env' σ2 w2 I2 μ2 a2 k1 k2 k3 k4 ((q2.mono hm).trans k5)):p:=h
def Lq{p:Prop}(h:p:=by exact⟨_,_,Ot rfl rfl,rfl,rfl⟩):p:=h
def pE{p:Prop}(h:p:=by
 simp only[hc,Cx,CF] at h
 obtain⟨h1,h2,h3,h4⟩:=h
 exact .inl ⟨opV P Gl σ env o.op,opS P Gl σ env o.op,by simp only[Fi,hg,hc,Cx,CF];exact⟨h1,h2,h3,trivial,trivial⟩,h4⟩):p:=h
def pD{p:Prop}(h:p:=by
 have hi:i<vs0.length:=by
  rw[hl0]
  rcases B9 i cs.length with h'|h'
  ·exact h'
  rw[Bt h'] at hx;cases hx
 exact ih i v x hv hx (h0 i vs0[i] x (BP hi) hx)):p:=h
def pC{p:Prop}(h:p:=by
 refine⟨(k+1,_,oid),⟨h,⟨f,?_,λn=>?_⟩,?_⟩,AQ,AU ?_⟩
 rotate_left 3
 ·rw[hst]
  rfl
 ·simp only[zU,seval,hT,lT]
 ·rw[hst];exact hf n
 rw[hst]
 simp only[zU,seval,hO,lO]):p:=h
def FC{p q:Prop}(k:q)(h:CU q->p:=by
 intro hh
 simp only[zF,seval,B6]
 exact hh.1):p:=h ⟨k⟩
def od{p:Prop}(h:p:=by
 obtain⟨i,hi,e⟩:=Vq.1 hy
 have:=pwD h.Gx (oo:i<k) hk
 rw[B5,BP (oo:i<o.length)] at this
 rw[<-e];exact this):p:=h
def oc{p:Prop}(h:p:=by
 rcases B9 i s.length with h'|h'
 ·exact h'
 exfalso
 have:A1 s i=.dead:=Vz
 rcases hB with q|q<;>rw[this] at q<;>cases q):p:=h
def Bdd{p:Prop}(h:p:=by
 simp only[zC,seval,(oo:¬(k:Int)<xs.length)]
 have:k=xs.length:=oo
 subst this
 rw[BL] at hi
 refine⟨_,_,Dh [] [0] rfl A6 (show BJ _ _ _=AV.d _ from rfl) rfl,?_,rfl⟩
 rw[NL hi]):p:=h
def Bde{p:Prop}(h:p:=by
 simp only[zC,seval,(oo:¬(k:Int)<xs.length)]
 have:k=xs.length:=oo
 subst this
 rw[BL] at hi
 refine⟨_,_,Dh [] [0] rfl A6 (show BJ _ _ _=AV.d _ from rfl) rfl,?_,rfl⟩
 rw[cn hi]):p:=h
def Te{p:Prop}(h:p:=by rw[Bt h'] at hc;cases hc):p:=h
def oa{p:Prop}(h:p:=by
 have h2:p (a.getD j default) (b.getD j default)=true:=DN
 refine⟨by rw[hs,Vo,hi,hgr];simp only[Sy,List.all_nil,h2,Bool.and_self],BA [] [] rfl A6 rfl rfl⟩):p:=h
def o_{p:Prop}(h:p:=by
 rw[TK]
 intro i hi
 obtain⟨g1,g2,_⟩:=Kc.1 hi
 have:i∈Fh all listed:=GP.2 ⟨CI.2 g1,by rw[g2];rfl⟩
 rw[hnil] at this;cases this):p:=h
def Mj{p q:Prop}(k:q)(h:CU q->p:=by
 intro hh
 simp only[zC,seval,(oo:¬(k:Int)<l.length)]
 exact hh.1):p:=h ⟨k⟩
def OI{p:Prop}(h:p:=by
 rw[E8] at this
 omega):p:=h
def bp{p:Prop}(h:p:=by exact hn _ _ _ _ q1 (hG.AH q2) ((hE.AH q2).AJ hd (.iff true _ _ (λ_=>q3) (λh=>D8))) q2):p:=h
def L3{p q:Prop}(k:q)(h:CU q->p:=by
 intro hh
 simp only[zS,seval,H.ti,H.te,H.tk,H.tz]
 exact hh.1):p:=h ⟨k⟩
def bo{p q:Prop}(k:q)(h:CU q->p:=by
 intro hh
 simp only[zC,seval,(oo:(k:Int)<xs.length),h,Af _ _ _ (oo:k<xs.length)]
 exact hh.1):p:=h ⟨k⟩
def KB{p:Prop}(h:p:=by exact⟨_,_,KY,rfl,rfl⟩):p:=h
def WQ{p:Prop}(h:p:=by
 unfold Ae at h1;split at h1
 ·rename_i e;rw[e];exact hks
 exact h1):p:=h
def oZ{p:Prop}(h:p:=by
 rcases B9 id σ.length with h'|h'
 ·exact h'
 exfalso
 have:A1 σ id=.dead:=Vz
 rw[this] at hb;cases hb):p:=h
def oY{p:Prop}(h:p:=by
 rcases B9 i σ.length with h'|h'
 ·exact h'
 exfalso
 have:A1 σ i=.dead:=Vz
 rw[this] at hb;cases hb):p:=h
def oX{p q:Prop}(k:q)(h:CU q->p:=by
 intro hh
 simp only[zB,seval,(oo:(k:Int)<l.length),h,Af _ _ _ (oo:k<l.length)]
 exact hh.1):p:=h ⟨k⟩
def bn{p:Prop}(h:p:=by
 intro j o ho hj
 have hj:=Es hj
 rw[I_ hj] at ho;cases ho):p:=h
def Dd{p:Prop}(h:p:=by exact AU rfl):p:=h
def Bdt{p:Prop}(h:p:=by
 refine⟨by rw[QQ,hj];simp only[Rk,<-eb,<-ea];rw[hc];rfl,?_⟩
 refine BA [] [0] rfl A6 ?_ rfl
 simp only[zC,seval,a_w ((j:Int)+1),hS]
 all_goals rfl):p:=h
def bm{p:Prop}(h:p:=by rw[Bt h'] at hx;cases hx):p:=h
def bk{p q:Prop}(k:q)(h:CU q->p:=by
 intro hh
 simp only[zC,seval,(oo:(0:Int)<k),e1,(oo:((k-1:Nat):Int)<l.length),(oo:k-1<l.length),Af _ _ _ (oo:k-1<l.length),<-ea]
 exact hh.1):p:=h ⟨k⟩
def oW{p q:Prop}(k:q)(h:CU q->p:=by
 intro hh
 simp only[zF,seval,(oo:(j:Int)<a.length),(oo:(j:Int)<b.length),hj,hj2,Af _ _ _ (oo:j<a.length),Af _ _ _ (oo:j<b.length),a_w ((j:Int)+1)]
 refine Ak (hp _ (Ba hj) _ (Ba hj2)) ?_
 simp only[zF,seval,a_w ((j:Int)+1)]
 exact hh.1):p:=h ⟨k⟩
def CN{p q:Prop}(k:q)(h:CU q->p:=by
 intro hh
 refine AT.iJ ?_
 exact hh.1):p:=h ⟨k⟩
def bg{p q:Prop}(k:q)(h:CU q->p:=by
 intro hh
 simp only[zF,seval,kI,OK,hcl,lcl,(oo:(BD.length+1)*8<=140737488355328),(oo:BD.length<=4611686018427387903),hto]
 exact hh.1):p:=h ⟨k⟩
def b_{p:Prop}(h:p:=by
 have:ys.getD i default=ys[i]:=RG
 rw[this];exact hD _ (h _ (FZ hi))):p:=h
def br{p:Prop}(h:p:=by
 rcases hI with hI|⟨h1,_⟩
 ·exact hn hI
 rw[hB] at h1;simp[Blk.AY] at h1):p:=h
def oq{p:Prop}(h:p:=by
 rw[hnil] at hst
 obtain⟨e0,h0,hk⟩:=hst
 exact hq e0 σ w I μ a hk hR hG ⟨hE.defers,hE.size,λt=>by rw[h0 t];exact hE.slot t⟩ (Ay.refl _ _ _ _ hm)):p:=h
def Bd2{p:Prop}(h:p:=by
 have:(List.range a.length).all (λi=>p (a.getD i default) (b.getD i default))=false:=Vc.2 ⟨j,Kt,Je⟩
 rw[this]):p:=h
def om{p:Prop}(h:p:=by
 refine(hset e.on).2 ?_
 rcases(hset j).1 hj with hj|rfl
 ·exact .inl (hD j hj o' ho' e he hb)
 rw[h3] at ho';cases ho';exact .inl (h4 e he hb)):p:=h
def oh{p:Prop}(h:p:=by
 rw[MA,plO]
 by_cases e:n=(q.getD k default).number
 ·rw[AD Li,AD e];rfl
 rw[A7 J5,A7 e];exact hf n):p:=h
def og{p:Prop}(h:p:=by
 subst ej
 rw[Eh] at hμj
 simp only[BF,EO] at hμj
 obtain⟨rfl,rfl⟩:=hμj
 intro e;subst e
 exact hno i oi hi hμi):p:=h
def oe{p:Prop}(h:p:=by
 have:=Hv.1 h i j oo hj hij
 simpa[BP hj,BP (oo:i<l.length)] using this):p:=h
def bq{p:Prop}(h:p:=by
 simp only[O4,BF] at h
 subst h
 exact hs.1):p:=h
def WR{p:Prop}(h:p:=by exact⟨_,_,Dh [] [0] rfl A6 rfl rfl,rfl,rfl⟩):p:=h
def Ln{p q:Prop}(k:q)(h:CU q->p:=by
 intro hh
 refine⟨_,_,Bg.refl _ _ _,?_⟩
 exact hh.1):p:=h ⟨k⟩
def Bea{p:Prop}(h:p:=by
 refine⟨ao,?_⟩
 refine BA [] [0] rfl A6 ?_ rfl
 simp only[zC,seval,a_w ((k:Int)+1)]
 all_goals rfl):p:=h
def oP{p:Prop}(h:p:=by
 have:∀B,KZ es xs B->Ca [i] s B=B:=λB hB=>by rcases hB with rfl|rfl<;>rfl
 simp only[C1,Ci,E9];rw[this _ hB]):p:=h
def Bec{p:Prop}(h:p:=by simp only[zC,seval,a_w ((k:Int)+1)]):p:=h
def Bed{p:Prop}(h:p:=by
 refine⟨RT,?_⟩
 refine BA [] [0] rfl A6 ?_ rfl
 simp only[zC,seval,a_w ((k:Int)+1)]
 all_goals rfl):p:=h
def bZ{p:Prop}(h:p:=by
 simp only[zD,seval,B6]
 exact⟨_,_,Ei,by rw[Am];congr 2;omega,rfl⟩):p:=h
def oO{p:Prop}(h:p:=by
 simp only[zF,seval,a_w ((i:Int)+1)]
 exact⟨(i+1,_),⟨AQ,hf5⟩,AQ,by rw[hcs];exact AU rfl⟩):p:=h
def oM{p:Prop}(h:p:=by
 funext i
 rcases B9 i all.size with h|h
 ·have:¬all.size<=i:=oo
  simp[h,this]
 simp[h,Sw.2 h]):p:=h
def bY{p:Prop}(h:p:=by
 unfold Fh
 exact DC (Ge _ _) A6):p:=h
def oK{p:Prop}(h:p:=by
 obtain⟨p1,p2,p3,p4,p5⟩:=h1 a1
 exact⟨e1.trans p1,e2.trans p2,e3.trans p3,DC p4 e4,DC p5 (k.bsize b)⟩):p:=h
def oJ{p:Prop}(h:p:=by
 refine⟨_,?_,r1,r2⟩
 simp[Builtin.delete_,run_underlying hu,MapKept.run_getObj_map h3,hck,hrun,MapKept.run_setObj_map _ h3]):p:=h
def oI{p:Prop}(h:p:=by
 rcases B9 n es.size with h'|h'
 ·exact h'
 rw[Bt W3] at q1;cases q1):p:=h
def WL{p:Prop}(h:p:=by
 simp only[opV,opS,h1]
 exact EK.same hR h2 h3):p:=h
def WK{p:Prop}(h:p:=by rw[BB Hb,As hA.symm];exact h):p:=h
def Lm{p q:Prop}(k:q)(h:CU q->p:=by
 intro hh
 rw[AD Cz]
 exact hh.1):p:=h ⟨k⟩
def oH{p:Prop}(h:p:=by
 rw[CA,show List.take out.length (out.map Cw.A5)=out.map Cw.A5 from Bi A6]
 rfl):p:=h
def bW{p:Prop}(h:p:=by
 simp only[RF,GG]
 omega):p:=h
def oG{p:Prop}(h:p:=by
 have hid':id<σ.length:=oo
 rw[BB hid']
 exact(h.D6 id hid').AH k (H8 _ _ e) λ_ _ _ _=>⟨rfl,λhn=>hn⟩):p:=h
def Bes{p:Prop}(h:p:=by
 refine⟨_,_,Dh [] [0] rfl A6 (show BJ _ _ _=AV.d _ from rfl) rfl,?_,rfl⟩
 rw[jo hi h Dc]):p:=h
def oF{p:Prop}(h:p:=by
 refine⟨c::x,y,rfl,λa ha=>?_,h2⟩
 rcases Bw.1 ha with rfl|ha
 ·exact hc
 exact h1 a ha):p:=h
def Beu{p:Prop}(h:p:=by
 rw[CA,show List.take out.length (out.map BQ.A5)=out.map BQ.A5 from Bi A6]
 rfl):p:=h
def oD{p:Prop}(h:p:=by
 have:=qd (Gl:=Gl) (l:=ps) (by simpa[Op.operands] using h)
 simp only[BE,opV,opS,this];exact⟨trivial,trivial,trivial⟩):p:=h
def WJ{p q:Prop}(k:q)(h:CU q->p:=by
 intro hh
 simp only[zU,seval,a_w ((1:Int)),a_w ((0:Int)),(oo:(0:Int)<=12)]
 exact hh.1):p:=h ⟨k⟩
def oC{p:Prop}(h:p:=by
 rcases hs.2 i with h1|h1|h1
 ·rw[hb] at h1;cases h1
 ·rw[hb] at h1;exact .inl h1
 rw[hb] at h1;exact .inr h1):p:=h
def oB{p:Prop}(h:p:=by
 rw[CA,show List.take out.length (out.map spD)=out.map spD from Bi A6]
 rfl):p:=h
def oA{p:Prop}(h:p:=by simp only[Gp,Gc,CZ,K8,RF,GG];omega):p:=h
def WN{p:Prop}(h:p:=by exact .A8 _ _ _ _ hid (.inl ⟨rfl,_,rfl⟩)):p:=h
def FN{p q:Prop}(k:q)(h:CU q->p:=by
 intro hh
 simp only[zK,seval]
 exact hh.1):p:=h ⟨k⟩
def oV{p:Prop}(h:p:=by
 rw[CT] at hl
 exact⟨⟨oo,oo⟩,⟨_,_,Dh [] [1] rfl A6 rfl rfl,rfl,rfl⟩⟩):p:=h
def WM{p:Prop}(h:p:=by rw[e1] at hlen;rw[e2];simp at hlen ⊢;omega):p:=h
def oU{p:Prop}(h:p:=by
 have:=Ga (f:=λk=>KQ has (l.getD k default)) hi (by simp only[hat];decide) h
 rw[Sc,this];simp only[hat]):p:=h
def oT{p:Prop}(h:p:=by
 unfold D.sub
 rw[IZ,Bi oo]
 exact(D.DV h2).symm):p:=h
def oS{p:Prop}(h:p:=by
 have h:=x3.slot tB
 rw[hb] at h
 change AL w5 I5 μ5 s3 (a5.eval (.tmp tB)) _ at h
 exact(cf h rfl)):p:=h
def Mi{p:Prop}(h:p:=by
 refine AU ?_
 rfl):p:=h
def oQ{p:Prop}(h:p:=by
 rcases B9 j G.length with h'|h'
 ·exact h'
 rw[Bt h'] at hs;cases hs):p:=h
def bR{p:Prop}(h:p:=by
 simp only[zD,seval,B6]
 exact⟨_,_,Ei,by rw[Am],rfl⟩):p:=h
def nu{p:Prop}(h:p:=by
 rcases B9 b w.heap.size with h'|h'
 ·exact h'
 rw[I_ h'] at hb;cases hb):p:=h
def nt{p:Prop}(h:p:=by
 rcases B9 i ids.length with h'|h'
 ·exact h'
 rw[Bt h'] at hi;cases hi):p:=h
def nr{p:Prop}(h:p:=by
 show List.flatMap HE _=_
 rw[VZ]
 show List.flatMap (λi=>[A i]) _=_
 exact VG _ _):p:=h
def nq{p:Prop}(h:p:=by
 simp only[Array.size_append,TG,size_zeroCells,hzs,hol,hnl,<-E8]
 congr 1;omega):p:=h
def nn{p:Prop}(h:p:=by
 have e2:(q-es) % es=q % es:=by rw[<-Nat.mod_eq_sub_mod oo]
 rw[e1,e2,O5]):p:=h
def nk{p:Prop}(h:p:=by
 rcases B9 i all.size with h'|h'
 ·exact h'
 rw[I_ h'] at ho;cases ho):p:=h
def nj{p:Prop}(h:p:=by rw[Q_,As oo,CE,A7 A6,BH,EB,CA];rfl):p:=h
def bQ{p:Prop}(h:p:=by
 show Blk.map _ _=_
 congr 1
 funext k;cases k<;>rfl):p:=h
def nh{p:Prop}(h:p:=by
 simp only[ne_eq,Vf,decide_false,Kq,CZ]
 rw[hc.1];omega):p:=h
def bP{p:Prop}(h:p:=by exact⟨.ret,env',σ',I',μ',trivial,q2,q3,q4,q5,q6⟩):p:=h
def ng{p:Prop}(h:p:=by
 by_cases h0:0<=pr i
 ·simp only[AD h0];rw[hdep _ oo]
 simp only[A7 h0]):p:=h
def nf{p:Prop}(h:p:=by
 have e:([AV.A8 i 0 k]++[]).map (BJ [i] σ)=[.A8 0 0 k]:=by simp[BJ,DJ,Bn]
 rw[e];exact h):p:=h
def nb{p:Prop}(h:p:=by
 obtain⟨xs,h3,h4⟩:=h2.ex
 exact⟨other h1 rfl A6,⟨xs,other h3 rfl A6,h4⟩⟩):p:=h
def na{p:Prop}(h:p:=by
 rw[e2]
 have e5:Ee all (pre++post)=Ee all pre++Ee all post:=by simp[Ee]
 rw[e5];exact s2):p:=h
def bO{p:Prop}(h:p:=by rw[CE,A7 oo,EB];rfl):p:=h
def n_{p:Prop}(h:p:=by
 rw[e]
 have:=TA (NT h)
 exact⟨this.1,this.2 _ ⟨x,hx,rfl,rfl,rfl⟩⟩):p:=h
def nZ{p:Prop}(h:p:=by
 unfold Ae at hk'
 split at hk'
 ·cases hk';simp only;omega
 have:=h.tm k' t' hk';omega):p:=h
def WI{p:Prop}(h:p:=by exact BA [] [] rfl A6 rfl rfl):p:=h
def nY{p:Prop}(h:p:=by
 have hne:¬fn.name = "runtime.NumGoroutine" := by simpa using hname
 simp[callFunc,hf,hb,hne]):p:=h
def nX{p:Prop}(h:p:=by
 refine BA [] [3] rfl A6 ?_ ?_
 ·rfl
 show[Blk.arr 1 _]=[Blk.arr 1 _]
 simp):p:=h
def nW{p:Prop}(h:p:=by
 simp only[BF,EO] at this
 obtain⟨rfl,rfl⟩:=this
 exact g2):p:=h
def Bfw{p:Prop}(h:p:=by
 refine⟨_,_,Dh [] [0] rfl A6 (show BJ _ _ _=AV.d _ from rfl) rfl,?_,rfl⟩
 rw[S6]):p:=h
def Tc{p:Prop}(h:p:=by rename_i h1;exact absurd h h1):p:=h
def Ra{p:Prop}(h:p:=by exact⟨H,AU rfl,o1⟩):p:=h
def nV{p:Prop}(h:p:=by rw[Bt (by rw[QW,Ux];exact h),Bt WA]):p:=h
def o9{p:Prop}(h:p:=by exact((((Fr.refl s [q,Ai]).set _ A6).trans (Fr.app _ _) A6)).set _ A6):p:=h
def o8{p:Prop}(h:p:=by
 rw[A7 e] at this
 simp only[BF] at this
 rw[this]):p:=h
def Pp{p q:Prop}(k:q)(h:CU q->p:=by
 intro hh
 refine⟨_,_,Hi rfl ?_,rfl,rfl⟩
 exact hh.1):p:=h ⟨k⟩
def bV{p:Prop}(h:p:=by exact BA [] [0] rfl A6 rfl (HS (YB _) _)):p:=h
def bU{p:Prop}(h:p:=by
 funext j
 rw[Od oo,EU]
 rfl):p:=h
def o6{p:Prop}(h:p:=by
 obtain⟨u,hu1,hu2⟩:=h7 i j _ c (Oh hil) hc
 exact⟨u,hu1,hu2.AH k.Bs k.CB⟩):p:=h
def bS{p:Prop}(h:p:=by
 split
 ·exact Ext.append _
 exact Ext.refl _):p:=h
def Td{p:Prop}(h:p:=by exact⟨0,AU rfl,trivial⟩):p:=h
def o0{p:Prop}(h:p:=by
 rw[Ny]
 simp[Ee,MY (oo:N<all.size)]):p:=h
def nw{p:Prop}(h:p:=by
 rw[ho] at this
 simp only[EW] at this
 have:=this e he
 simpa[hb] using this):p:=h
def nP{p:Prop}(h:p:=by
 rw[CE,A7 A6]
 simp only[BH,EB]
 rfl):p:=h
def nO{p:Prop}(h:p:=by subst q1;exact⟨.exit _,env',σ',I',μ',(rfl:MR (.exit _) (.exit _)),q2,q3,q4,q5,q6⟩):p:=h
def Tb{p:Prop}(h:p:=by rw[E8] at this;omega):p:=h
def nN{p:Prop}(h:p:=by rw[BB (by simp;exact lM),As (AX hA hM A6),As (AX hE hM A6)];exact hM):p:=h
def Bge{p:Prop}(h:p:=by
 simp only
 rw[hs1,hE,wkR,hn]
 simp only[ite_self]
 exact⟨_,_,_,hI1⟩):p:=h
def Bgf{p:Prop}(h:p:=by
 simp only
 rw[hs1,hE,wkR,A7 (by simpa using hkk)]
 exact⟨_,_,_,hI1⟩):p:=h
def nM{p:Prop}(h:p:=by
 refine(main S (Ext.refl S)).mono λr s ⟨e1,e2⟩=>?_
 subst e1;subst e2;exact h2):p:=h
def nL{p:Prop}(h:p:=by rw[Ec oo,TE hq,T2 hq];rfl):p:=h
def nK{p:Prop}(h:p:=by rw[Bt WA,Bt (by simp;exact h)]):p:=h
def nJ{p:Prop}(h:p:=by
 simp only at hp
 rw[A7 oo,A7 oo];exact q3 p oo):p:=h
def Bgk{p q:Prop}(k:q)(h:CU q->p:=by
 intro hh
 refine AWp.P4 rfl rfl ?_
 exact hh.1):p:=h ⟨k⟩
def Po{p q:Prop}(k:q)(h:CU q->p:=by
 intro hh
 rw[Bb]
 exact hh.1):p:=h ⟨k⟩
def Jh{p q:Prop}(k:q)(h:CU q->p:=by
 intro hh
 simp only[zB,seval,B6]
 exact hh.1):p:=h ⟨k⟩
def bK{p q:Prop}(k:q)(h:CU q->p:=by
 intro hh
 simp only[zF,seval,(oo:(k:Int)<l.length),h,Af _ _ _ (oo:k<l.length),hxx]
 exact hh.1):p:=h ⟨k⟩
def Jg{p q:Prop}(k:q)(h:CU q->p:=by
 intro hh
 simp only[zK,seval,B6]
 exact hh.1):p:=h ⟨k⟩
def bJ{p q:Prop}(k:q)(h:CU q->p:=by
 intro hh
 simp only[Ds,H9,MW]
 rw[R6]
 exact hh.1):p:=h ⟨k⟩
def nI{p:Prop}(h:p:=by rcases qe a.at_ b.at_ with⟨q,e⟩|⟨q,e⟩|⟨q,e⟩<;>rw[e]<;>simp[h2]<;>omega):p:=h
def nH{p:Prop}(h:p:=by rw[Bt (by simp;exact h),Bt (by simp;exact h)]):p:=h
def nG{p:Prop}(h:p:=by
 simp only
 rw[hsn,BB Ap,BX Ap,Bb]):p:=h
def nF{p:Prop}(h:p:=by simp only[hkst,<-MV,Bb,Hx];rfl):p:=h
def nE{p:Prop}(h:p:=by
 rename_i he
 obtain⟨rfl,rfl⟩:=he
 rw[AD ⟨oo,oo⟩];rfl):p:=h
def Bgv{p:Prop}(h:p:=by rw[hbad (by unfold NB;rw[SI h2 (by simp only[Rk,<-eb,<-ea];rw[hc];rfl)];rfl)]):p:=h
def bI{p:Prop}(h:p:=by rw[Bi (Nv hol)]):p:=h
def nD{p:Prop}(h:p:=by
 rw[CY l j h,P_]
 congr 1
 rw[PT]
 split<;>simp_all):p:=h
def nC{p:Prop}(h:p:=by simp only[Cv,hO,Blk.xs,IZ,Bi (Nv hol)]):p:=h
def nB{p:Prop}(h:p:=by
 rw[hc t oo] at h3
 have:=Es h3
 omega):p:=h
def bN{p:Prop}(h:p:=by
 rw[hm] at h1;cases h1
 exact⟨qa h3,h2⟩):p:=h
def Gg{p q:Prop}(k:q)(h:CU q->p:=by
 intro hh
 refine AWp.block ?_
 exact hh.1):p:=h ⟨k⟩
def nU{p:Prop}(h:p:=by
 by_cases e:Bh (He A9 l) l.length=0
 ·exact e
 rw[AD e] at h;exact h):p:=h
def nT{p:Prop}(h:p:=by exact⟨r2,_,l_,r1.AH k⟩):p:=h
def Bg4{p q:Prop}(k:q)(h:CU q->p:=by
 intro hh
 (try simp only[zC,seval,(oo:(0:Int)<k),e1,(oo:((k-1:Nat):Int)<l.length),(oo:k-1<l.length),Af _ _ _ (oo:k-1<l.length),<-ea])
 exact hh.1):p:=h ⟨k⟩
def nS{p:Prop}(h:p:=by
 have:=hW b z0 (by rw[hwb];simp)
 exact⟨z0.toNat,oo,oo⟩):p:=h
def bL{p:Prop}(h:p:=by rw[CE,A7 oo,FA];rfl):p:=h
def KA{p q:Prop}(k:q)(h:CU q->p:=by
 intro hh
 simp only[zU,seval,B6]
 exact hh.1):p:=h ⟨k⟩
def nR{p:Prop}(h:p:=by
 have:=hW c y (by rw[hw];simp)
 exact⟨y.toNat,oo,oo⟩):p:=h
def nQ{p:Prop}(h:p:=by
 rw[As e]
 exact(h.D6 i hi).AH k rfl λ_ _ _ _=>⟨rfl,λhn=>hn⟩):p:=h
def mw{p:Prop}(h:p:=by rw[CE,A7 A6,BH,BH,FA];rfl):p:=h
def Ky{p:Prop}(h:p:=by simp only;omega):p:=h
def mu{p:Prop}(h:p:=by simp only[A7 hc] at hu;first|exact absurd rfl hu|exact(hu trivial).elim):p:=h
def mr{p:Prop}(h:p:=by exact(((Fr.refl s [q,Ai]).set _ A6).trans (Fr.app _ _) A6)):p:=h
def mq{p:Prop}(h:p:=by left;unfold A1;rw[B5,Bt h];rfl):p:=h
def mo{p:Prop}(h:p:=by rw[BB (by simp;exact lb),BX (by simp;exact lb),Bb];rfl):p:=h
def WE{p:Prop}(h:p:=by rw[AD e] at hu';cases hu'):p:=h
def mm{p:Prop}(h:p:=by
 split
 ·rename_i e;subst e;exact Hw _ h
 exact h):p:=h
def OH{p:Prop}(h:p:=by exact⟨rfl,rfl⟩):p:=h
def ml{p:Prop}(h:p:=by
 rw[AD (by rw[ho];exact h5)] at hu
 rw[hb 11 hu oo]):p:=h
def mh{p:Prop}(h:p:=by
 simp only[zF,seval,gU,Sd,iK,ZD]
 exact⟨rfl,Bc.refl _ _ _ _⟩):p:=h
def bH{p:Prop}(h:p:=by simp only[zU,seval,DX,a_w ((k:Int)+1)]):p:=h
def Ll{p:Prop}(h:p:=by simpa using this):p:=h
def bG{p:Prop}(h:p:=by exact G3 this):p:=h
def mg{p:Prop}(h:p:=by exact⟨[],AU rfl,λh=>absurd (Es h) D7⟩):p:=h
def me{p:Prop}(h:p:=by rw[CE,BH,A7 oo,EB];rfl):p:=h
def mc{p:Prop}(h:p:=by
 simp only[BF] at q1
 rw[q1];exact q2.symm):p:=h
def ma{p:Prop}(h:p:=by
 simp only[Sort.grow,World.drewN]
 rw[TL this]):p:=h
def FB{p q:Prop}(k:q)(h:CU q->p:=by
 intro hh
 refine AT.Jv ?_
 exact hh.1):p:=h ⟨k⟩
def m_{p q:Prop}(k:q)(h:CU q->p:=by
 intro hh
 rw[z18]
 simp only[zF,seval,hqA2,hcl0,(oo:(mx:Int)<(AI l.parts).length),Nz,J3]
 exact hh.1):p:=h ⟨k⟩
def R_{p:Prop}(h:p:=by rw[E8];omega):p:=h
def mZ{p:Prop}(h:p:=by
 rw[AD hi,TC hi]
 unfold A1
 simp[hi]):p:=h
def mY{p:Prop}(h:p:=by rw[YC hi,P_,PT,AD (by rw[hl];rfl)]):p:=h
def mX{p:Prop}(h:p:=by simp only[Bb,CT,C6];omega):p:=h
def bF{p:Prop}(h:p:=by simp only[RB];omega):p:=h
def Pm{p:Prop}(h:p:=by
 intro L hc hL hp
 refine .inl ?_
 (simp only[EM,Region.binds,frB] at hp;(try simp only[EU,Nat.reduceAdd] at hL);simp only[zT,seval,hL,hp,Ef,Er,D3,hq])
 refine Ag ?_
 exact cA):p:=h
def Bub{p:Prop}(h:p:=by
 by_cases hk0:0<k
 have e1:IntKind.i64.wrap ((k:Int)-1)=((k-1:Nat):Int):=Bz
 obtain⟨a,ea⟩:∃a,a=l.getD (k-1) default:=⟨_,rfl⟩
 rw[JU hk0,Hu,<-ea] at ho
 refine Bg4 ?_
 refine Ag ?_
 apply ifC.mk<;>intro h9
 ·refine BT ?_
  rw[AD h9] at ho
  rw[hb 11 ho oo]
 rw[A7 (by rw[h9];simp)] at ho
 rotate_left
 rw[HX hk0,JV,A7 A6] at ho
 have e0:(IntKind.i64.wrap ((k:Int)-1)).toNat=0:=Bz
 (try simp only[zC,seval,(oo:¬(0:Int)<k),e0,Af _ _ _ (oo:0<l.length)])
 repeat((with_reducible apply aI);exact sdp)
 all_goals
  refine⟨HR hi ho,?_⟩
  refine Gw ?_
  simp only[zC,seval,a_w ((k:Int)+1)]):p:=h
def WH{p:Prop}(h:p:=by
 have hs:=Uu (λx=>has (g x)) l k h
 refine oX ?_
 refine Ag ?_
 refine Ak (hg _) ?_
 obtain⟨d,hd⟩:=XG hst (.i (g (l.getD k default))) (.str [])
 simp only[zB,seval,hf,hd]
 refine Ag ?_
 apply ifC.mk<;>intro hc
 ·exact Bby
 exact Bb9):p:=h
def GV{p q:Prop}(k:q)(h:CU q->p:=by
 intro hh
 refine Eu ?_
 refine C0 ?_
 exact hh.1):p:=h ⟨k⟩
def Jf{p q:Prop}(k:q)(h:CU q->p:=by
 intro hh
 refine Cu ?_
 refine Pq ?_
 refine Cf ?_
 exact hh.1):p:=h ⟨k⟩
def WG{p:Prop}(h:p:=by
 refine BT ?_
 refine congrArg (λb=>AV.d (D.bool b)) ?_
 unfold IH
 cases e4:(s.state==4)<;>cases e2:(s.state==2)<;>simp_all<;>omega):p:=h
def Fo{p q:Prop}(k:q)(h:CU q->p:=by
 intro hh
 refine Ce ?_
 refine Ag ?_
 exact hh.1):p:=h ⟨k⟩
def Pn{p:Prop}(h:p:=by
 refine Ce ?_
 refine BT ?_
 exact Bb4):p:=h
def mz{p:Prop}(h:p:=by
 have hqA2:∀b5 b6,A1 (apR s2 q Ai (k-1) cells BD (k:Int) b5 b6 false) q=_:=λb5 b6=>Mp hqr rfl hqA
 rw[z18]
 simp only[zF,seval,hqA2,hcl0,(oo:((k-1:Nat):Int)<EV.length),Nz,J3]
 exact FO):p:=h
def Hc{p q:Prop}(k:q)(h:CU q->p:=by
 intro hh
 refine Eu ?_
 refine WT ?_
 exact hh.1):p:=h ⟨k⟩
def my{p:Prop}(h:p:=by
 have hqA2:∀b5 b6,A1 (apR s3 q Ai j cells BD (k:Int) b5 b6 false) q=_:=λb5 b6=>Mp hqr rfl hqA
 rw[z18]
 simp only[zF,seval,hqA2,hcl0,(oo:(j:Int)<EV.length),Nz,J3]
 exact FO):p:=h
def Kx{p:Prop}(h:p:=by
 refine C0 ?_
 exact D0):p:=h
def mO{p:Prop}(h:p:=by
 intro k hi hk
 by_cases h:k<xs.length
 ·have hs:=K_ (λy=>x==y) xs k h
  refine bo ?_
  refine Ag ?_
  apply ifC.mk<;>intro hc
  ·exact cB
  exact Bed
 exact Bdd):p:=h
def mN{p:Prop}(h:p:=by
 intro k hi hk
 by_cases h:k<xs.length
 ·have hs:=Uu (·==0) xs k h
  refine bo ?_
  refine Ag ?_
  apply ifC.mk<;>intro hc
  ·exact Bes
  exact Bea
 exact Bde):p:=h
def RZ{p:Prop}(h:p:=by
 simp only[zF,seval,hbA]
 exact FO):p:=h
def Kv{p:Prop}(h:p:=by
 refine EE ?_
 exact D0):p:=h
def mM{p:Prop}(h:p:=by
 refine acS func71 ntmps71 results71 ?_
 refine EE ?_
 refine Be (hix.mono λr s hr=>?_)
 obtain⟨rfl,rfl⟩:=hr
 refine Ce ?_
 exact Bfw):p:=h
def Mh{p:Prop}(h:p:=by
 refine Gw ?_
 exact Bc3):p:=h
def Ta{p q:Prop}(k:q)(h:CU q->p:=by
 intro hh
 refine Eu ?_
 simp only[zF,seval,a_w ((m:Int)+1)]
 exact hh.1):p:=h ⟨k⟩
def mL{p:Prop}(h:p:=by
 rw[<-h5 _ (Ka hil)]
 rcases B9 j (xs.getD i default).cells.length with h'|h'
 ·exact h'
 exact Te):p:=h
def bD{p:Prop}(h:p:=by
 refine EE ?_
 refine Ak (qW _ _ _ _) ?_
 refine Ce ?_
 exact WW):p:=h
def mK{p:Prop}(h:p:=by
 refine⟨(k+1,_),⟨h,?_⟩,AQ,AU ?_⟩
 rotate_left
 ·rw[hs2]
  exact Mk
 exact Bge):p:=h
def mJ{p:Prop}(h:p:=by
 refine⟨(k+1,_),⟨h,?_⟩,AQ,AU ?_⟩
 rotate_left
 ·rw[hs2]
  exact Mk
 exact Bgf):p:=h
def RY{p:Prop}(h:p:=by
 refine Po ?_
 exact WU):p:=h
def mI{p:Prop}(h:p:=by
 simp only[By] at hI
 obtain⟨E,h1,h2,h3,h4⟩:=hI
 refine C0 ?_
 exact⟨_,_,Bg.refl _ _ _,rfl,E,h1,h2,h3,h4⟩):p:=h
def RX{p q:Prop}(k:q)(h:CU q->p:=by
 intro hh
 refine Ce ?_
 refine Ak (gT _ _) ?_
 exact hh.1):p:=h ⟨k⟩
def mH{p:Prop}(h:p:=by
 have h2:p (a.getD j default) (b.getD j default)=false:=DN
 refine BT ?_
 exact Bd2):p:=h
def mG{p:Prop}(h:p:=by
 rw[z10]
 simp only[zF,seval,hqA2,hcl0,(oo:(c:Int)<o.n),Nz,J3]
 exact FO):p:=h
def RW{p:Prop}(h:p:=by
 refine Gw ?_
 exact Bec):p:=h
def T_{p:Prop}(h:p:=by
 refine Eu ?_
 exact Bcc):p:=h
def TZ{p:Prop}(h:p:=by
 refine AU ?_
 exact Ji):p:=h
def mF{p:Prop}(h:p:=by
 have h1:a.length≠b.length:=TN
 refine BT ?_
 rw[hle h1]):p:=h
def bC{p:Prop}(h:p:=by
 simp only[zF,seval,Q1a,kI]
 exact FO):p:=h
def TY{p:Prop}(h:p:=by
 refine Ag ?_
 exact cD):p:=h
def OG{p q:Prop}(k:q)(h:CU q->p:=by
 intro hh
 refine Bb7 ?_
 refine Ag ?_
 exact hh.1):p:=h ⟨k⟩
def mW{p:Prop}(h:p:=by
 refine Ag ?_
 refine BA [] [0,4] rfl A6 ?_ ?_
 ·rfl
 rfl):p:=h
def mV{p:Prop}(h:p:=by
 rcases B9 i xs.length with h'|h'
 ·exact h'
 exact bm):p:=h
def mU{p:Prop}(h:p:=by
 rcases B9 j vs.length with h'|h'
 ·omega
 exact Te):p:=h
def mT{p:Prop}(h:p:=by
 have hb:=bB z7
 rw[z7]
 simp only[zF,seval,hb]
 exact Ra):p:=h
def mS{p:Prop}(h:p:=by
 have:(i+1)*es<=off*es:=EC es h'
 exact OI):p:=h
def mR{p:Prop}(h:p:=by
 rcases B9 j z.cells.length with h'|h'
 ·omega
 exact c8):p:=h
def Pl{p q:Prop}(k:q)(h:CU q->p:=by
 intro hh
 refine Cu ?_
 refine Cu ?_
 exact hh.1):p:=h ⟨k⟩
def mQ{p:Prop}(h:p:=by
 refine Fo ?_
 refine DS (λ_=>yo l hl hn j k oo) ?_
 refine Fo ?_
 apply ifC.mk<;>intro hc
 ·refine BT ?_
  exact Bgv
 exact Bdt):p:=h
def mP{p q:Prop}(k:q)(h:CU q->p:=by
 intro hh
 simp only[zF,seval,(oo:(m:Int)<row.length)]
 refine Jf ?_
 simp only[zF,seval,(oo:(m:Int)<row.length),hml,Af _ _ _ (oo:m<row.length),hy,BW]
 exact hh.1):p:=h ⟨k⟩
def Pk{p q:Prop}(k:q)(h:CU q->p:=by
 intro hh
 refine Bgk ?_
 refine GV ?_
 exact hh.1):p:=h ⟨k⟩
def mE{p:Prop}(h:p:=by
 refine Ag ?_
 refine BA [] [0,5] rfl A6 ?_ ?_
 ·exact RY
 exact Beu):p:=h
def mD{p:Prop}(h:p:=by
 refine Pk ?_
 exact⟨s3,A3,hlo3,hT3,hA3,by rw[hstep,hB1];exact hI3,AU rfl⟩):p:=h
def mC{p:Prop}(h:p:=by
 refine Pk ?_
 exact⟨s2,A,hlo2,hT2,hx2,hA,by rw[hA1];exact hI2,AU rfl⟩):p:=h
inductive D where
 | int (k:IntKind) (n:Int)
 | bool (b:Bool)
 | str (s:List UInt8)
 | agg (cs:List D)
 | sl (xs:List D)
 | raw (v:Value)
 | ref (x:D)
instance:Inhabited D:=⟨.bool false⟩
def D.cells:D->List D
 | .agg cs=>cs
 | x=>[x]
def D.one:D->Bool
 | .agg _=>false
 | _=>true
def D.isAgg:D->Bool
 | .agg _=>true
 | _=>false
def D.cell(x:D)(i:Nat):D:=x.cells.getD i default
def D.sub(x:D)(off n:Nat):D:=.agg ((x.cells.drop off).take n)
def D.flat(x:D):Prop:=∀c∈x.cells,c.one=true
def D.putAt(x:D)(N off n:Nat)(u:D):D:=
 if off=0/\n=N then u else .agg ((List.range N).map λj=>if off<=j/\j<off+n then u.cell (j-off) else x.cell j)
def eB:Value->Bool
 | .pointer none=>true
 | .map none=>true
 | .slice none 0 0=>true
 | .nilFunc=>true
 | .nilIface=>true
 | _=>false
structure Im where
 rd:Nat->Prop
 fr:Nat->Prop
 sub:∀b,rd b->fr b
inductive BU(w:World)(I:Im):Value->D->Prop
 | int (k:IntKind) (n:Int):BU w I (.int k n) (.int k n)
 | bool (b:Bool):BU w I (.bool b) (.bool b)
 | str (s:List UInt8):BU w I (.string ⟨s.toArray⟩) (.str s)
 | raw (v:Value) (h:eB v=true):BU w I v (.raw v)
 | agg (vs:List Value) (cs:List D) (hl:vs.length=cs.length) (hone:∀c∈cs,c.one=true)
   (h:∀(i:Nat) (v:Value) (x:D),vs[i]? = some v->cs[i]? = some x->BU w I v x):BU w I (.agg vs.toArray) (.agg cs)
 | nil (a:Option Addr) (cap:Nat):BU w I (.slice a 0 cap) (.sl [])
 | ref (b off:Nat) (x:D) (vals:Nat->Value) (hI:I.rd b) (hfl:x.flat) (hc:∀j,j<x.cells.length->w.cell? ⟨b,off+j,none⟩=some (vals j))
   (hr:∀(j:Nat) (y:D),x.cells[j]? = some y->BU w I (vals j) y):BU w I (.pointer (some ⟨b,off,none⟩)) (.ref x)
 | sl (b off es cap:Nat) (xs:List D) (vals:Nat->Nat->Value) (hI:I.rd b) (hcap:xs.length<=cap) (hes:∀x∈xs,x.cells.length=es) (hfl:∀x∈xs,x.flat)
   (hc:∀i j,i<xs.length->j<es->w.cell? ⟨b,off+i*es+j,none⟩=some (vals i j))
   (hr:∀(i j:Nat) (x y:D),xs[i]? = some x->x.cells[j]? = some y->BU w I (vals i j) y):BU w I (.slice (some ⟨b,off,none⟩) xs.length cap) (.sl xs)
structure J1(w:World)(I:Im)(b off es:Nat)(xs:List D):Prop where
 Bs:I.rd b
 size:∀x∈xs,x.cells.length=es
 flat:∀x∈xs,x.flat
 cell:∀(i j:Nat) (x y:D),xs[i]? = some x->x.cells[j]? = some y->∃v,w.cell? ⟨b,off+i*es+j,none⟩=some v/\BU w I v y
inductive Aw where
 | i (n:Int)
 | s (l:List UInt8)
 | p (a b:Int)
deriving DecidableEq
def F3:Option IntKind->Aw->Prop
 | some .u8,.p _ _=>True
 | some .u8,_=>False
 | some _,.i _=>True
 | none,.s _=>True
 | _,_=>False
def DL(ik:Option IntKind):Aw->Value
 | .i n=>.int (ik.getD .i64) n
 | .s l=>.string ⟨l.toArray⟩
 | .p a b=>.agg #[.int .i64 a,.int .i64 b]
inductive AV where
 | undef
 | d (x:D)
 | AA
 | agg (cs:List AV)
 | ptr (id off:Nat)
 | B8 (es:Nat) (xs:List D) (i off:Nat)
 | Al (id i off:Nat)
 | A8 (id off len:Nat)
 | fn (f:FuncId) (caps:List AV)
 | Aj (vs:List AV)
 | iff (g:Bool) (v:AV)
 | AF (id:Nat)
 | BY
instance:Inhabited AV:=⟨.undef⟩
instance:Coe Int AV:=⟨λx=>.d (.int .i64 x)⟩
instance:Coe Bool AV:=⟨λx=>.d (.bool x)⟩
instance:Coe Int D:=⟨.int .i64⟩
def AV.one:AV->Bool
 | .d x=>x.one
 | .AA|.ptr ..|.A8 ..|.fn ..|.B8 ..|.Al ..|.AF _=>true
 | _=>false
inductive Blk where
 | dead
 | box (n:Nat) (v:AV)
 | arr (es:Nat) (xs:List D)
 | BS (es:Nat) (xs:List D)
 | map (ik:Option IntKind) (f:Aw->Option AV)
 | var (es:Nat) (cs:List AV)
instance:Inhabited Blk:=⟨.dead⟩
abbrev Sto:=List Blk
def A1(S:Sto)(id:Nat):Blk:=S.getD id .dead
def Blk.AP:Blk->Bool
 | .dead=>true
 | _=>false
def Br(S:Sto)(id:Nat):Prop:=(A1 S id).AP=false
def Blk.B7:Blk->Bool
 | .arr ..|.BS ..|.var ..=>true
 | _=>false
def Blk.AY:Blk->Bool
 | .arr ..|.BS ..=>true
 | _=>false
def Blk.es:Blk->Nat
 | .arr es _|.BS es _|.var es _=>es
 | _=>0
def Blk.xs:Blk->List D
 | .arr _ xs|.BS _ xs=>xs
 | .var es cs=>List.replicate (cs.length / es) default
 | _=>[]
def Blk.arr_of_dat{B:Blk}(h:B.AY=true):B.B7=true:=by cases B<;>first|rfl|cases h
def Blk.own:Blk->Bool
 | .box ..|.arr ..|.map ..|.var ..=>true
 | _=>false
def Blk.CC:Blk->Bool
 | .map ..=>true
 | _=>false
def Blk.mk:Blk->Option IntKind
 | .map ik _=>ik
 | _=>none
def Blk.mf:Blk->Aw->Option AV
 | .map _ f=>f
 | _=>λ_=>none
def AV.cellAt:AV->Nat->AV
 | .d x,j=>.d (x.cell j)
 | .agg cs,j=>cs.getD j .undef
 | v,_=>v
def AV.AO:AV->Nat
 | .d x=>x.cells.length
 | .agg cs=>cs.length
 | _=>1
def DQ(w:World)(b:Nat):Nat:=match w.heap[b]? with|some (.cells c _ _)=>c.size|_=>0
def G_(w:World)(b:Nat):Prop:=∃c t,w.heap[b]? = some (.cells c t (0,0))
abbrev Pos:=Nat->Option (Nat×Nat)
inductive AL(w:World)(I:Im)(μ:Pos)(σ:Sto):Value->AV->Prop
 | undef (v:Value):AL w I μ σ v .undef
 | d (v:Value) (x:D) (h:BU w I v x):AL w I μ σ v (.d x)
 | AA:AL w I μ σ (.slice none 0 0) .AA
 | agg (vs:List Value) (cs:List AV) (hl:vs.length=cs.length) (hone:∀c∈cs,c.one=true)
   (h:∀(i:Nat) (v:Value) (x:AV),vs[i]? = some v->cs[i]? = some x->AL w I μ σ v x):AL w I μ σ (.agg vs.toArray) (.agg cs)
 | ptr (v:Value) (id off:Nat) (hid:id<σ.length) (h:∃b base,(Br σ id->μ id=some (b,base))/\v=.pointer (some ⟨b,base+off,none⟩)):AL w I μ σ v (.ptr id off)
 | B8 (b o es:Nat) (xs:List D) (i off:Nat) (h:J1 w I b o es xs):AL w I μ σ (.pointer (some ⟨b,o+i*es+off,none⟩)) (.B8 es xs i off)
 | Al (v:Value) (id i off:Nat) (hid:id<σ.length) (h:∃b base es,(Br σ id->μ id=some (b,base)/\(A1 σ id).es=es)/\v=.pointer (some ⟨b,base+i*es+off,none⟩)):AL w I μ σ v (.Al id i off)
 | A8 (v:Value) (id off len:Nat) (hid:id<σ.length)
   (h:(len=0/\∃a,v=.slice a 0 0) \/
    ∃b base es cap,(Br σ id->μ id=some (b,base)/\(A1 σ id).B7=true/\(A1 σ id).es=es/\off+len<=(A1 σ id).xs.length/\base+(off+cap)*es<=DQ w b) /\
     len<=cap/\v=.slice (some ⟨b,base+off*es,none⟩) len cap):AL w I μ σ v (.A8 id off len)
 | fn (f:FuncId) (vs:List Value) (caps:List AV) (hl:vs.length=caps.length)
   (h:∀(i:Nat) (v:Value) (x:AV),vs[i]? = some v->caps[i]? = some x->AL w I μ σ v x):AL w I μ σ (.func (.func f) #[] vs.toArray) (.fn f caps)
 | Aj (vs:List Value) (cs:List AV) (hl:vs.length=cs.length)
   (h:∀(i:Nat) (v:Value) (x:AV),vs[i]? = some v->cs[i]? = some x->AL w I μ σ v x):AL w I μ σ (.tuple vs.toArray) (.Aj cs)
 | iff (g:Bool) (v:Value) (x:AV) (h1:g=true->AL w I μ σ v x) (h2:g=false->v=Go.undef):AL w I μ σ v (.iff g x)
 | AF (v:Value) (id:Nat) (hid:id<σ.length) (h:∃b,(Br σ id->μ id=some (b,0))/\v=.map (some b)):AL w I μ σ v (.AF id)
 | BY (b:Bool):AL w I μ σ (.bool b) .BY
structure KH(w:World)(I:Im)(μ:Pos)(σ:Sto)(ik:Option IntKind)(f:Aw->Option AV)(es:List MapEntry):Prop where
 keys:∀e∈es,∃k,F3 ik k/\e.key=DL ik k
 nodup:es.Pairwise λe e'=>e.key≠e'.key
 Iw:∀k v,F3 ik k->f k=some v->∃e∈es,e.key=DL ik k/\AL w I μ σ e.val v
 Gr:∀k,F3 ik k->f k=none->∀e∈es,e.key≠DL ik k
def Ft(w:World)(I:Im)(L:Pos)(S:Sto)(id:Nat):Blk->Prop
 | .dead=>True
 | .box n v=>∃b base,L id=some (b,base)/\¬I.fr b/\G_ w b/\base+n<=DQ w b/\v.AO=n /\
   ∀j,j<n->(v.cellAt j).one=true/\∃u,w.cell? ⟨b,base+j,none⟩=some u/\AL w I L S u (v.cellAt j)
 | .arr es xs=>(L id=none/\xs=[])\/∃b base,L id=some (b,base)/\¬I.fr b/\G_ w b/\base+xs.length*es<=DQ w b/\(∀x∈xs,x.cells.length=es)/\(∀x∈xs,x.flat) /\
   ∀(i j:Nat) (x y:D),xs[i]? = some x->x.cells[j]? = some y->∃v,w.cell? ⟨b,base+i*es+j,none⟩=some v/\BU w I v y
 | .BS es xs=>(L id=none/\xs=[])\/∃b base,L id=some (b,base)/\J1 w I b base es xs
 | .var es cs=>(0<es/\cs.length / es*es=cs.length)/\((L id=none/\cs=[])\/∃b base,L id=some (b,base)/\¬I.fr b/\G_ w b/\base+cs.length<=DQ w b /\
   ∀(j:Nat) (c:AV),cs[j]? = some c->c.one=true/\∃u,w.cell? ⟨b,base+j,none⟩=some u/\AL w I L S u c)
 | .map ik f=>∃b es clock,L id=some (b,0)/\¬I.fr b/\(w.heap[b]? = some (.map es clock)/\MapKept.Stamped es clock)/\KH w I L S ik f es.toList
structure Rel(w:World)(I:Im)(μ:Pos)(σ:Sto):Prop where
 Bs:∀b,I.fr b->b<w.heap.size
 D6:∀id,id<σ.length->Ft w I μ σ id (A1 σ id)
 apart:∀i j b b' o o',i≠j->(A1 σ i).own=true->(A1 σ j).own=true->μ i=some (b,o)->μ j=some (b',o')->b≠b'
abbrev Env:=List (Nat×AV)
def Bl(env:Env)(t:Nat):AV:=
 match env with
 | []=>.undef
 | (s,v)::r=>if s=t then v else Bl r t
structure C9(n:Nat)(w:World)(I:Im)(μ:Pos)(σ:Sto)(env:Env)(a:Act):Prop where
 defers:a.defers=[]
 size:a.tmps.size=n
 slot:∀t,AL w I μ σ (a.tmps.getD t Go.undef) (Bl env t)
structure Ay(m:Nat)(w:World)(I:Im)(μ:Pos)(σ:Sto)(w':World)(I':Im)(μ':Pos)(σ':Sto):Prop where
 os:w'.os=w.os
 tape:w'.tape=w.tape
 output:w'.output=w.output
 size:w.heap.size<=w'.heap.size
 Bs:∀b,I.rd b->I'.rd b
 fr:∀b,I.fr b->I'.fr b
 KF:∀b,I'.rd b->I.rd b\/¬I.fr b
 same:∀b,I.fr b->w'.heap[b]? = w.heap[b]?
 bsize:∀b,DQ w b<=DQ w' b
 len:m<=σ'.length
 BD:∀id,id<m->Br σ' id->Br σ id/\μ' id=μ id/\(A1 σ' id).B7=(A1 σ id).B7/\(A1 σ' id).es=(A1 σ id).es/\(A1 σ id).xs.length<=(A1 σ' id).xs.length
def Ay.refl{m:Nat}(w:World)(I:Im)(L:Pos)(S:Sto)(hm:m<=S.length):Ay m w I L S w I L S:=
 ⟨rfl,rfl,rfl,AR _,λ_ h=>h,λ_ h=>h,λ_ h=>.inl h,λ_ _=>rfl,λ_=>AR _,hm,λ_ _ h=>⟨h,rfl,rfl,rfl,AR _⟩⟩
def Ay.trans{m:Nat}{w w1 w2:World}{I I1 I2:Im}{L μ1 μ2:Pos}{S σ1 σ2:Sto}
  (h:Ay m w I L S w1 I1 μ1 σ1) (k:Ay m w1 I1 μ1 σ1 w2 I2 μ2 σ2):Ay m w I L S w2 I2 μ2 σ2:=
 ⟨k.os.trans h.os,k.tape.trans h.tape,k.output.trans h.output,DC h.size k.size,λb hb=>k.Bs b (h.Bs b hb),λb hb=>k.fr b (h.fr b hb),
  (λb hb=>(k.KF b hb).elim (λh1=>h.KF b h1) (λh1=>.inr (λh2=>h1 (h.fr b h2)))),
  λb hb=>(k.same b (h.fr b hb)).trans (h.same b hb),λb=>DC (h.bsize b) (k.bsize b),k.len,λid hi ha=>by
   obtain⟨a1,e1,r1,s1,l1⟩:=k.BD id hi ha
   obtain⟨a2,e2,r2,s2,l2⟩:=h.BD id hi a1
   exact⟨a2,e1.trans e2,r1.trans r2,s1.trans s2,DC l2 l1⟩⟩
def Ay.mono{m m':Nat}{w w':World}{I I':Im}{L μ':Pos}{S σ':Sto}(h:Ay m w I L S w' I' μ' σ')(hm:m'<=m):Ay m' w I L S w' I' μ' σ':=
 ⟨h.os,h.tape,h.output,h.size,h.Bs,h.fr,h.KF,h.same,h.bsize,DC hm h.len,λid hi=>h.BD id (JX hi hm)⟩
def Ay.CB{m:Nat}{w w':World}{I I':Im}{L μ':Pos}{S σ':Sto}(h:Ay m w I L S w' I' μ' σ'):∀b,I.rd b->w'.heap[b]? = w.heap[b]? := λb hb=>h.same b (I.sub b hb)
def BU.AH{w w':World}{I I':Im}(himm:∀b,I.rd b->I'.rd b)(hsame:∀b,I.rd b->w'.heap[b]? = w.heap[b]?){v:Value}{x:D}(h:BU w I v x):BU w' I' v x:=by
 induction h with
 | int k n=>exact .int k n
 | bool b=>exact .bool b
 | str s=>exact .str s
 | raw v h=>exact .raw v h
 | agg vs cs hl hone h ih=>exact .agg vs cs hl hone ih
 | nil a cap=>exact .nil a cap
 | sl b off es cap xs vals hI hcap hes hfl hc hr ih=>
  exact .sl b off es cap xs vals (himm b hI) hcap hes hfl (λi j hi hj=>by rw[World.cell?_of_block (w:=w) (hsame b hI)];exact hc i j hi hj) ih
 | ref b off x vals hI hfl hc hr ih=>exact .ref b off x vals (himm b hI) hfl (λj hj=>by rw[World.cell?_of_block (w:=w) (hsame b hI)];exact hc j hj) ih
def J1.AH{w w':World}{I I':Im}(himm:∀b,I.rd b->I'.rd b)(hsame:∀b,I.rd b->w'.heap[b]? = w.heap[b]?){b o es:Nat}{xs:List D}(h:J1 w I b o es xs):J1 w' I' b o es xs:=
 ⟨himm b h.Bs,h.size,h.flat,λi j x y hx hy=>by
  obtain⟨v,hv,hr⟩:=h.cell i j x y hx hy
  exact⟨v,by rw[World.cell?_of_block (w:=w) (hsame b h.Bs)];exact hv,hr.AH himm hsame⟩⟩
def AL.AH{w w':World}{I I':Im}{μ μ':Pos}{σ σ':Sto}(k:Ay σ.length w I μ σ w' I' μ' σ'){v:Value}{x:AV}(h:AL w I μ σ v x):AL w' I' μ' σ' v x:=by
 induction h with
 | undef v=>exact .undef v
 | d v x h=>exact .d v x (h.AH k.Bs k.CB)
 | AA=>exact .AA
 | agg vs cs hl hone h ih=>exact .agg vs cs hl hone ih
 | ptr v id off hid h=>
  obtain⟨b,base,h1,h2⟩:=h;refine .ptr v id off (JX hid k.len) ⟨b,base,λha=>?_,h2⟩;obtain⟨a1,e1,_⟩:=k.BD id hid ha;rw[e1];exact h1 a1
 | B8 b o es xs i off h=>exact .B8 b o es xs i off (h.AH k.Bs k.CB)
 | Al v id i off hid h=>
  obtain⟨b,base,es,h1,h2⟩:=h;refine .Al v id i off (JX hid k.len) ⟨b,base,es,λha=>?_,h2⟩;obtain⟨a1,e1,_,e2,_⟩:=k.BD id hid ha;rw[e1,e2];exact h1 a1
 | A8 v id off len hid h=>
  refine .A8 v id off len (JX hid k.len) ?_;rcases h with h|⟨b,base,es,cap,h1,h2,h3⟩
  ·exact .inl h
  refine .inr ⟨b,base,es,cap,λha=>?_,h2,h3⟩;obtain⟨a1,e1,e2,e3,e4⟩:=k.BD id hid ha;exact oK
 | fn f vs caps hl h ih=>exact .fn f vs caps hl ih
 | Aj vs cs hl h ih=>exact .Aj vs cs hl ih
 | iff g v x h1 h2 ih=>exact .iff g v x ih h2
 | AF v id hid h=>
  obtain⟨b,h1,h2⟩:=h;refine .AF v id (JX hid k.len) ⟨b,λha=>?_,h2⟩;obtain⟨a1,e1,_⟩:=k.BD id hid ha;rw[e1];exact h1 a1
 | BY b=>exact .BY b
def KH.imp{w w':World}{I I':Im}{L μ':Pos}{S σ':Sto}{ik:Option IntKind}{f:Aw->Option AV}{g:AV->AV}{es:List MapEntry}(h:KH w I L S ik f es)(hr:∀v u,AL w I L S v u->AL w' I' μ' σ' v (g u)):KH w' I' μ' σ' ik (λk=>(f k).map g) es:=
 ⟨h.keys,h.nodup,λk v hk hv=>by
  cases hf:f k with
  | none=>rw[hf] at hv;cases hv
  | some u=>
   rw[hf] at hv
   simp only[DF,BF] at hv
   subst hv
   obtain⟨e,h1,h2,h3⟩:=h.Iw k u hk hf
   exact⟨e,h1,h2,hr _ _ h3⟩,λk hk hv=>h.Gr k hk (by cases hf:f k with|none=>rfl|some u=>rw[hf] at hv;cases hv)⟩
def KH.imp'{w w':World}{I I':Im}{L μ':Pos}{S σ':Sto}{ik:Option IntKind}{f:Aw->Option AV}{es:List MapEntry}(h:KH w I L S ik f es)(hr:∀v u,AL w I L S v u->AL w' I' μ' σ' v u):KH w' I' μ' σ' ik f es:=by
 have:=h.imp (g:=λu=>u) hr;have e:(λk=>(f k).map λu=>u)=f:=by funext k;cases f k<;>rfl
 rwa [e] at this
def G_.same{w w':World}{b:Nat}(h:G_ w b)(e:w'.heap[b]? = w.heap[b]?):G_ w' b:=by
 obtain⟨c,t,hc⟩:=h;exact⟨c,t,e.trans hc⟩
def Oj{w w':World}{b:Nat}(e:w'.heap[b]? = w.heap[b]?):DQ w' b=DQ w b:=by unfold DQ;rw[e]
def Ft.AH{w w':World}{I I':Im}{μ μ':Pos}{σ σ':Sto}(k:Ay σ.length w I μ σ w' I' μ' σ'){id:Nat}{B:Blk}(hμ:μ' id=μ id)
  (hb:B.own=true->∀b o,μ id=some (b,o)->w'.heap[b]? = w.heap[b]? /\ (¬I.fr b->¬I'.fr b)) (h:Ft w I μ σ id B):Ft w' I' μ' σ' id B:=by
 cases B with
 | dead=>trivial
 | box n v=>
  obtain⟨b,base,h1,h2,h3,h4,h5,h6⟩:=h;obtain⟨e,ni⟩:=hb rfl b base h1;refine⟨b,base,hμ.trans h1,ni h2,h3.same e,by rw[Oj e];exact h4,h5,λj hj=>?_⟩;obtain⟨h7,u,h8,h9⟩:=h6 j hj;exact⟨h7,u,by rw[World.cell?_of_block (w:=w) e];exact h8,h9.AH k⟩
 | arr es xs=>
  rcases h with⟨h1,h2⟩|⟨b,base,h1,h2,h3,h4,h5,h6,h7⟩
  ·exact .inl ⟨hμ.trans h1,h2⟩
  obtain⟨e,ni⟩:=hb rfl b base h1;refine .inr ⟨b,base,hμ.trans h1,ni h2,h3.same e,by rw[Oj e];exact h4,h5,h6,λi j x y hx hy=>?_⟩;obtain⟨v,hv,hr⟩:=h7 i j x y hx hy;exact⟨v,by rw[World.cell?_of_block (w:=w) e];exact hv,hr.AH k.Bs k.CB⟩
 | BS es xs=>
  rcases h with⟨h1,h2⟩|⟨b,base,h1,h2⟩
  ·exact .inl ⟨hμ.trans h1,h2⟩
  exact .inr ⟨b,base,hμ.trans h1,h2.AH k.Bs k.CB⟩
 | map ik f=>
  obtain⟨b,es,clock,h1,h2,h3,h4⟩:=h;obtain⟨e,ni⟩:=hb rfl b 0 h1;exact⟨b,es,clock,hμ.trans h1,ni h2,⟨e.trans h3.1,h3.2⟩,h4.imp' λv u hv=>hv.AH k⟩
 | var es cs=>
  refine⟨h.1,?_⟩;rcases h.2 with⟨h1,h2⟩|⟨b,base,h1,h2,h3,h4,h7⟩
  ·exact .inl ⟨hμ.trans h1,h2⟩
  obtain⟨e,ni⟩:=hb rfl b base h1;refine .inr ⟨b,base,hμ.trans h1,ni h2,h3.same e,by rw[Oj e];exact h4,λj c hc=>?_⟩;obtain⟨q1,u,q2,q3⟩:=h7 j c hc;exact⟨q1,u,by rw[World.cell?_of_block (w:=w) e];exact q2,q3.AH k⟩
def C9.AH{n:Nat}{w w':World}{I I':Im}{μ μ':Pos}{σ σ':Sto}(k:Ay σ.length w I μ σ w' I' μ' σ'){env:Env}{a:Act}(h:C9 n w I μ σ env a):C9 n w' I' μ' σ' env a:=
 ⟨h.defers,h.size,λt=>(h.slot t).AH k⟩
def C9.put{n:Nat}{w:World}{I:Im}{L:Pos}{S:Sto}{env:Env}{a:Act}(h:C9 n w I L S env a){d:Nat}(hd:d<n){v:Value}{x:AV}(hv:AL w I L S v x):
  C9 n w I L S ((d,x)::env) (a.put (some d) v):=by
 refine⟨h.defers,by simp[Act.put,h.size],λt=>?_⟩;have hs:=h.size;by_cases e:d=t
 ·subst e;simp only[Act.put,Bl,By];rw[Jb,O9 oo];exact hv
 simp only[Act.put,Bl,A7 e];rw[Jb,Pb e,<-Jb];exact h.slot t
def vH{S:Sto}{id:Nat}(h:Br S id):id<S.length:=by
 unfold Br A1 at h;rcases B9 id S.length with h'|h'
 ·exact h'
 rw[B5,Bt h'] at h;simp[Blk.AP] at h
def BB{S T:Sto}{id:Nat}(h:id<S.length):A1 (S++T) id=A1 S id:=by
 unfold A1;simp[B5,Ec h]
def Cd{σ:Sto}{B:Blk}:A1 (σ++[B]) σ.length=B:=by
 unfold A1;simp[B5]
def As{S:Sto}{i j:Nat}{B:Blk}(h:i≠j):A1 (S.set i B) j=A1 S j:=by
 unfold A1;simp[B5,IX h]
def BX{S:Sto}{i:Nat}{B:Blk}(h:i<S.length):A1 (S.set i B) i=B:=by
 unfold A1;simp[B5,Lg h]
end Go.AM


namespace Go.AM
variable {w w':World} {I:Im} {μ:Pos} {σ:Sto}
structure HN(w w':World):Prop where
 os:w'.os=w.os
 tape:w'.tape=w.tape
 output:w'.output=w.output
 heap:w'.heap=w.heap
def HN.refl(w:World):HN w w:=⟨rfl,rfl,rfl,rfl⟩
def HN.drew(w:World):HN w {w with drawn:=w.drawn+1}:=⟨rfl,rfl,rfl,rfl⟩
def HN.AH(s:HN w w'):Ay σ.length w I μ σ w' I μ σ:=
 ⟨s.os,s.tape,s.output,by rw[s.heap];exact AR _,λ_ h=>h,λ_ h=>h,λ_ h=>.inl h,λ_ _=>by rw[s.heap],λb=>by unfold DQ;rw[s.heap];exact AR _,AR _,λ_ _ h=>⟨h,rfl,rfl,rfl,AR _⟩⟩
def HN.rel(s:HN w w')(h:Rel w I μ σ):Rel w' I μ σ:=
 ⟨λb hb=>by rw[s.heap];exact h.Bs b hb,λid hid=>(h.D6 id hid).AH s.AH rfl (λ_ b o _=>⟨by rw[s.heap],λhn=>hn⟩),h.apart⟩
def F0(μ:Pos)(id:Nat)(p:Nat×Nat):Pos:=λi=>if i=id then some p else μ i
def Eh(μ:Pos)(id:Nat)(p:Nat×Nat):F0 μ id p id=some p:=by simp[F0]
def H8(μ:Pos){id i:Nat}(p:Nat×Nat)(h:i≠id):F0 μ id p i=μ i:=by simp[F0,h]
def ee(w:World)(o:Obj)(b:Nat):DQ w b<=DQ (w.alloc o) b:=by
 unfold DQ;rcases B9 b w.heap.size with h|h
 ·rw[RowKit.Below.heap_alloc _ _ _ h];exact AR _
 rw[I_ h];exact Bq _
def Uy(w:World)(o:Obj):(w.alloc o).heap[w.heap.size]? = some o:=by
 show(w.heap.push o)[w.heap.size]? = some o;simp
def Kb(w:World)(c:Array Value)(t:TypeId):DQ (w.alloc (.cells c t)) w.heap.size=c.size:=by
 unfold DQ;rw[Uy]
def SJ(w:World)(c:Array Value)(t:TypeId):G_ (w.alloc (.cells c t)) w.heap.size:=⟨c,t,Uy _ _⟩
def Jt(h:Rel w I μ σ)(o:Obj)(p:Nat×Nat)(B:Blk):Ay σ.length w I μ σ (w.alloc o) I (F0 μ σ.length p) (σ++[B]):=
 ⟨rfl,rfl,rfl,A6,λ_ h=>h,λ_ h=>h,λ_ h=>.inl h,λb hb=>RowKit.Below.heap_alloc _ _ _ (h.Bs b hb),ee w o,A6,λid hid ha=>by
  refine⟨?_,H8 _ _ oo,?_⟩
  ·unfold Br at *;rw[BB hid] at ha;exact ha
  rw[BB hid];exact⟨rfl,rfl,AR _⟩⟩
def Jo(h:Rel w I μ σ){id:Nat}(hid:id<σ.length)(ho:(A1 σ id).own=true){b o:Nat}(hμ:μ id=some (b,o)):b<w.heap.size/\¬I.fr b:=by
 have hb:=h.D6 id hid;cases e:A1 σ id with
 | dead=>rw[e] at ho;simp[Blk.own] at ho
 | BS es xs=>rw[e] at ho;simp[Blk.own] at ho
 | box n v=>
  rw[e] at hb;obtain⟨b',base,h1,h2,⟨c,t,h3⟩,_⟩:=hb;exact WV
 | arr es xs=>
  rw[e] at hb;rcases hb with⟨h1,_⟩|⟨b',base,h1,h2,⟨c,t,h3⟩,_⟩
  ·rw[hμ] at h1;cases h1
  exact WV
 | var es cs=>
  rw[e] at hb;rcases hb.2 with⟨h1,_⟩|⟨b',base,h1,h2,⟨c,t,h3⟩,_⟩
  ·rw[hμ] at h1;cases h1
  exact WV
 | map ik f=>
  rw[e] at hb;obtain⟨b',es,clock,h1,h2,⟨h3,_⟩,_⟩:=hb;exact WV
def E2{id:Nat}(ho:(A1 σ id).own=true):id<σ.length:=by
 rcases B9 id σ.length with h'|h'
 ·exact h'
 unfold A1 at ho;rw[B5,Bt h'] at ho;simp[Blk.own] at ho
def Rel.alloc(h:Rel w I μ σ)(o:Obj)(B:Blk)
  (hB:Ft (w.alloc o) I (F0 μ σ.length (w.heap.size,0)) (σ++[B]) σ.length B):Rel (w.alloc o) I (F0 μ σ.length (w.heap.size,0)) (σ++[B]):=by
 refine⟨λb hb=>?_,λid hid=>?_,?_⟩
 ·have:=h.Bs b hb;simp;omega
 ·simp only[Bb,CT,C6] at hid;by_cases e:id=σ.length
  ·subst e;rw[Cd];exact hB
  have hid':id<σ.length:=oo;rw[BB hid'];refine(h.D6 id hid').AH (Jt h o _ B) (H8 _ _ e) λho b o' hμ=>⟨RowKit.Below.heap_alloc _ _ _ (Jo h hid' ho hμ).1,λhn=>hn⟩
 intro i j b b' oi oj hij hi hj hμi hμj;have li:=E2 hi;have lj:=E2 hj;simp only[Bb,CT,C6] at li lj;by_cases ei:i=σ.length
 ·subst ei;have lj':j<σ.length:=oo;rw[Eh] at hμi;rw[H8 _ _ oo] at hμj;rw[BB lj'] at hj;have:=(Jo h lj' hj hμj).1;simp only[BF,EO] at hμi;omega
 have li':i<σ.length:=oo;rw[H8 _ _ ei] at hμi;rw[BB li'] at hi;by_cases ej:j=σ.length
 ·subst ej;rw[Eh] at hμj;have:=(Jo h li' hi hμi).1;simp only[BF,EO] at hμj;omega
 have lj':j<σ.length:=oo;rw[H8 _ _ ej] at hμj;rw[BB lj'] at hj;exact h.apart i j b b' oi oj hij hi hj hμi hμj
def Rel.newBox(h:Rel w I μ σ)(c:Array Value)(t:TypeId)(v:AV)(hn:v.AO=c.size)
  (hc:∀j u,c[j]? = some u->(v.cellAt j).one=true/\AL w I μ σ u (v.cellAt j)) :
  Rel (w.alloc (.cells c t)) I (F0 μ σ.length (w.heap.size,0)) (σ++[.box c.size v]):=by
 refine h.alloc _ _ ⟨w.heap.size,0,Eh _ _ _,λhI=>?_,SJ _ _ _,by rw[Kb];omega,hn,λj hj=>?_⟩
 ·have:=h.Bs _ hI;omega
 obtain⟨h1,h2⟩:=hc j c[j] Ku;exact⟨h1,c[j],by rw[EU,World.cell?_alloc_new];simp[hj],h2.AH (Jt h _ _ _)⟩
def Qee(c:Array Value)(t:TypeId)(v:AV):
  AL (w.alloc (.cells c t)) I (F0 μ σ.length (w.heap.size,0)) (σ++[.box c.size v]) (.pointer (some ⟨w.heap.size,0,none⟩)) (.ptr σ.length 0):=
 .ptr _ _ _ A6 ⟨w.heap.size,0,λ_=>Eh _ _ _,rfl⟩
def Rel.Gq(h:Rel w I μ σ)(c:Array Value)(t:TypeId)(es:Nat)(xs:List D)(hn:xs.length*es<=c.size)(hes:∀x∈xs,x.cells.length=es)(hfl:∀x∈xs,x.flat)
  (hc:∀(i j:Nat) (x y:D),xs[i]? = some x->x.cells[j]? = some y->∃u,c[i*es+j]? = some u/\BU w I u y) :
  Rel (w.alloc (.cells c t)) I (F0 μ σ.length (w.heap.size,0)) (σ++[.arr es xs]):=by
 refine h.alloc _ _ (.inr ⟨w.heap.size,0,Eh _ _ _,λhI=>?_,SJ _ _ _,by rw[Kb];omega,hes,hfl,λi j x y hx hy=>?_⟩)
 ·have:=h.Bs _ hI;omega
 obtain⟨u,h1,h2⟩:=hc i j x y hx hy;have k:=Jt h (.cells c t) (w.heap.size,0) (.arr es xs);exact⟨u,by rw[World.cell?_alloc_new,EU];exact h1,h2.AH k.Bs k.CB⟩
structure Io(b:Nat)(w w':World):Prop where
 os:w'.os=w.os
 tape:w'.tape=w.tape
 output:w'.output=w.output
 size:w'.heap.size=w.heap.size
 FM:∀b',b'≠b->w'.heap[b']? = w.heap[b']?
 bsize:DQ w' b=DQ w b
 plain:G_ w b->G_ w' b
def Io.refl(b:Nat)(w:World):Io b w w:=⟨rfl,rfl,rfl,rfl,λ_ _=>rfl,rfl,id⟩
def Io.trans{b:Nat}{w w1 w2:World}(h:Io b w w1)(k:Io b w1 w2):Io b w w2:=
 ⟨k.os.trans h.os,k.tape.trans h.tape,k.output.trans h.output,k.size.trans h.size,λb' hb=>(k.FM b' hb).trans (h.FM b' hb),k.bsize.trans h.bsize,λhp=>k.plain (h.plain hp)⟩
def Ob{id b base:Nat}(h:Rel w I μ σ)(hown:(A1 σ id).own=true)(hμ:μ id=some (b,base))(ww:Io b w w')(B:Blk)
  (ha:B.B7=(A1 σ id).B7) (he:B.es=(A1 σ id).es) (hl:(A1 σ id).xs.length<=B.xs.length):Ay σ.length w I μ σ w' I μ (σ.set id B):=by
 have hid:=E2 hown;obtain⟨_,hnI⟩:=Jo h hid hown hμ;refine⟨ww.os,ww.tape,ww.output,by rw[ww.size];exact AR _,λ_ h=>h,λ_ h=>h,λ_ h=>.inl h,λb' hb=>ww.FM b' (λe=>hnI (e▸hb)),λb'=>?_,A6,λi hi hal=>?_⟩
 ·by_cases e:b'=b
  ·subst e;rw[ww.bsize];exact AR _
  rw[Oj (ww.FM b' e)];exact AR _
 by_cases e:id=i
 ·subst e;rw[BX hid];refine⟨?_,rfl,ha,he,hl⟩;unfold Br;cases hB:A1 σ id<;>simp_all [Blk.own,Blk.AP]
 unfold Br at *;rw[As e] at hal ⊢;exact⟨hal,rfl,rfl,rfl,AR _⟩
def Rel.Ev{id b base:Nat}(h:Rel w I μ σ)(hown:(A1 σ id).own=true)(hμ:μ id=some (b,base))(ww:Io b w w')(B:Blk)
  (ha:B.B7=(A1 σ id).B7) (he:B.es=(A1 σ id).es) (hl:(A1 σ id).xs.length<=B.xs.length)
  (hrep:Ft w' I μ (σ.set id B) id B):Rel w' I μ (σ.set id B):=by
 have hid:=E2 hown;have k:=Ob h hown hμ ww B ha he hl;refine⟨λb' hb=>by rw[ww.size];exact h.Bs b' hb,λi hi=>?_,?_⟩
 ·by_cases e:id=i
  ·subst e;rw[BX hid];exact hrep
  rw[As e];simp only[BH] at hi;refine(h.D6 i hi).AH k rfl λho b' o' hμ'=>⟨ww.FM b' ?_,λhn=>hn⟩;exact(h.apart id i b b' base o' e hown ho hμ hμ').symm
 intro i j bi bj oi oj hij hi hj hμi hμj;have t:∀i,(A1 (σ.set id B) i).own=true->(A1 σ i).own=true:=λi hi=>by
  by_cases e:id=i
  ·subst e;exact hown
  rwa [As e] at hi
 exact h.apart i j bi bj oi oj hij (t i hi) (t j hj) hμi hμj
def gy(id:Nat):Ay σ.length w I μ σ w I μ (σ.set id .dead):=by
 refine⟨rfl,rfl,rfl,AR _,λ_ h=>h,λ_ h=>h,λ_ h=>.inl h,λ_ _=>rfl,λ_=>AR _,A6,λi hi hal=>?_⟩;by_cases e:id=i
 ·subst e;unfold Br at hal;rw[BX hi] at hal;simp[Blk.AP] at hal
 unfold Br at *;rw[As e] at hal ⊢;exact⟨hal,rfl,rfl,rfl,AR _⟩
def Rel.kill(h:Rel w I μ σ)(id:Nat):Rel w I μ (σ.set id .dead):=by
 refine⟨h.Bs,λi hi=>?_,?_⟩
 ·simp only[BH] at hi;by_cases e:id=i
  ·subst e;rw[BX hi];trivial
  rw[As e];exact(h.D6 i hi).AH (gy id) rfl λ_ _ _ _=>⟨rfl,λhn=>hn⟩
 intro i j bi bj oi oj hij hi hj;have t:∀i,(A1 (σ.set id .dead) i).own=true->(A1 σ i).own=true:=λi hi=>by
  by_cases e:id=i
  ·subst e;have:=E2 hi;simp only[BH] at this;rw[BX this] at hi;simp[Blk.own] at hi
  rwa [As e] at hi
 exact h.apart i j bi bj oi oj hij (t i hi) (t j hj)
def Blk.frozen:Blk->Blk
 | .arr es xs=>.BS es xs
 | B=>B
def freeze(σ:Sto)(id:Nat):Sto:=σ.set id (A1 σ id).frozen
def V2(I:Im)(μ:Pos)(σ:Sto)(id:Nat):Im where
 rd:=λb=>I.rd b\/((A1 σ id).AY=true/\(A1 σ id).own=true/\∃o,μ id=some (b,o))
 fr:=λb=>I.fr b\/((A1 σ id).AY=true/\(A1 σ id).own=true/\∃o,μ id=some (b,o))
 sub:=λb h=>h.elim (λh=>.inl (I.sub b h)) .inr
def Uq(h:Rel w I μ σ)(id:Nat):Ay σ.length w I μ σ w (V2 I μ σ id) μ (freeze σ id):=by
 refine⟨rfl,rfl,rfl,AR _,λ_ h=>.inl h,λ_ h=>.inl h,(λb hb=>hb.elim .inl λhb=>.inr (by obtain⟨_,h2,o,h3⟩:=hb;exact(Jo h (E2 h2) h2 h3).2)),λ_ _=>rfl,λ_=>AR _,by simp[freeze],λi hi hal=>?_⟩;unfold Br freeze at *;by_cases e:id=i
 ·subst e;rw[BX hi] at hal ⊢;cases hB:A1 σ id<;>simp_all [Blk.frozen,Blk.B7,Blk.AP,Blk.es,Blk.xs]
 rw[As e] at hal ⊢;exact⟨hal,rfl,rfl,rfl,AR _⟩
def Rel.freeze(h:Rel w I μ σ)(id:Nat):Rel w (V2 I μ σ id) μ (freeze σ id):=by
 have k:Ay σ.length w I μ σ w (V2 I μ σ id) μ (AM.freeze σ id):=Uq h id;refine⟨λb hb=>?_,λi hi=>?_,?_⟩
 ·rcases hb with hb|⟨h1,h2,o,h3⟩
  ·exact h.Bs b hb
  exact(Jo h (E2 h2) h2 h3).1
 ·simp only[AM.freeze,BH] at hi;by_cases e:id=i
  ·subst e;have hb:=h.D6 id hi;have e2:A1 (AM.freeze σ id) id=(A1 σ id).frozen:=by unfold AM.freeze;rw[BX hi]
   rw[e2];cases hB:A1 σ id with
   | arr es xs=>
    rw[hB] at hb;show Ft _ _ _ _ _ (.BS es xs);rcases hb with h1|⟨b,base,h1,h2,h3,h4,h5,h6,h7⟩
    ·exact .inl h1
    refine .inr ⟨b,base,h1,.inr ⟨ER,ER,base,h1⟩,h5,h6,λi j x y hx hy=>?_⟩;obtain⟨v,hv,hr⟩:=h7 i j x y hx hy;exact⟨v,hv,hr.AH k.Bs k.CB⟩
   | dead=>trivial
   | box n v=>
    rw[hB] at hb;refine hb.AH (B:=.box n v) k rfl λ_ b o hμ=>⟨rfl,λhn hI=>?_⟩;exact br
   | BS es xs=>
    rw[hB] at hb;exact hb.AH (B:=.BS es xs) k rfl λho=>by simp[Blk.own] at ho
   | var es cs=>
    rw[hB] at hb;refine hb.AH (B:=.var es cs) k rfl λ_ b o hμ=>⟨rfl,λhn hI=>?_⟩;exact br
   | map ik f=>
    rw[hB] at hb;refine hb.AH (B:=.map ik f) k rfl λ_ b o hμ=>⟨rfl,λhn hI=>?_⟩;exact br
  have e2:A1 (AM.freeze σ id) i=A1 σ i:=by unfold AM.freeze;rw[As e]
  rw[e2];refine(h.D6 i hi).AH k rfl λho b o hμ=>⟨rfl,λhn hI=>?_⟩;rcases hI with hI|⟨_,h2,o',h3⟩
  ·exact hn hI
  exact h.apart id i b b o' o e h2 ho h3 hμ rfl
 intro i j bi bj oi oj hij hi hj;have t:∀i,(A1 (AM.freeze σ id) i).own=true->(A1 σ i).own=true:=λi hi=>by
  unfold AM.freeze at hi;by_cases e:id=i
  ·subst e;have:=E2 hi;simp only[BH] at this;rw[BX this] at hi;cases hB:A1 σ id<;>rw[hB] at hi<;>simp_all [Blk.own,Blk.frozen]
  rwa [As e] at hi
 exact h.apart i j bi bj oi oj hij (t i hi) (t j hj)
def AL.oslData(h:Rel w I μ σ){v:Value}{id off len:Nat}(hv:AL w I μ σ v (.A8 id off len))(hz:(A1 σ id).AY=true)(hown:(A1 σ id).own=false):
  BU w I v (.sl (((A1 σ id).xs.drop off).take len)):=by
 cases hv with
 | A8 _ _ _ _ hid hv=>
  rcases hv with⟨rfl,a,rfl⟩|⟨b,base,es,cap,h1,h2,rfl⟩
  ·simpa using BU.nil a 0
  cases hB:A1 σ id with
  | BS es' xs=>
   have hb:=h.D6 id hid;have hal:Br σ id:=Mg;obtain⟨p1,p2,p3,p4,p5⟩:=h1 hal;rw[hB] at hb p3 p4;simp only[Blk.es,Blk.xs] at p3 p4 ⊢;subst p3;rcases hb with⟨h3,rfl⟩|⟨b',base',h3,hs⟩
   ·rw[p1] at h3;cases h3
   rw[p1] at h3;simp only[BF,EO] at h3;obtain⟨rfl,rfl⟩:=h3;have hlen:((xs.drop off).take len).length=len:=Ap;have hget:∀i x,((xs.drop off).take len)[i]? = some x->xs[off+i]? = some x:=λi x hx=>by
    rw[Pa] at hx;split at hx
    ·simpa using hx
    cases hx
   have hmem:∀x∈(xs.drop off).take len,x∈xs:=λx hx=>K7 (GS hx);have key:=BU.sl (w:=w) (I:=I) b (base+off*es') es' cap ((xs.drop off).take len) (λi j=>(w.cell? ⟨b,base+off*es'+i*es'+j,none⟩).getD Go.undef) hs.Bs (by rw[hlen];exact h2)
    (λx hx=>hs.size x (hmem x hx)) (λx hx=>hs.flat x (hmem x hx)) (λi j hi hj=>?_) (λi j x y hx hy=>?_)
   ·rw[hlen] at key;exact key
   ·have hx:((xs.drop off).take len)[i]? = some ((xs.drop off).take len)[i]:=BP hi;have hx':=hget i _ hx;have hsz:=hs.size _ (Dn hx');have hy:((xs.drop off).take len)[i].cells[j]? = some (((xs.drop off).take len)[i].cells[j]'(by rw[hsz];exact hj)):=BP _;obtain⟨u,hu,_⟩:=hs.cell (off+i) j _ _ hx' hy;have ea:base+(off+i)*es'+j=base+off*es'+i*es'+j:=bA;rw[ea] at hu;rw[hu];rfl
   obtain⟨u,hu,hr⟩:=hs.cell (off+i) j x y (hget i x hx) hy;have ea:base+(off+i)*es'+j=base+off*es'+i*es'+j:=bA;rw[ea] at hu;rw[hu];exact hr
  | dead=>rw[hB] at hz;simp[Blk.AY] at hz
  | box n v=>rw[hB] at hz;simp[Blk.AY] at hz
  | map ik f=>rw[hB] at hz;simp[Blk.AY] at hz
  | var es cs=>rw[hB] at hz;simp[Blk.AY] at hz
  | arr es xs=>rw[hB] at hown;simp[Blk.own] at hown
end Go.AM


namespace Go.AM
def AV.un:AV->AV
 | .iff _ a=>a
 | a=>a
def AV.vg:AV->Bool
 | .iff g _=>g
 | _=>true
def AV.isAgg:AV->Bool
 | .d x=>x.isAgg
 | .agg _=>true
 | _=>false
def AV.storable:AV->Bool
 | .undef=>false
 | .Aj _=>false
 | .iff _ _=>false
 | .BY=>false
 | _=>true
def AV.Di:AV->Bool
 | .ptr ..|.B8 ..|.Al ..=>true
 | .d (.ref _)=>true
 | _=>false
def AV.shift:AV->Nat->AV
 | .ptr id off,n=>.ptr id (off+n)
 | .B8 es xs i off,n=>.B8 es xs i (off+n)
 | .Al id i off,n=>.Al id i (off+n)
 | .d (.ref x),n=>.B8 x.cells.length [x] 0 n
 | v,_=>v
def AV.Au:AV->Bool
 | .d (.int _ _)=>true
 | _=>false
def AV.num:AV->Int
 | .d (.int _ n)=>n
 | _=>0
def AV.DT:AV->Bool
 | .d (.bool _)=>true
 | _=>false
def AV.DH:AV->Bool
 | .d (.bool b)=>b
 | _=>false
def Hk:List AV->Option (List D)
 | []=>some []
 | .d x::r=>(Hk r).map (x::·)
 | _::_=>none
def FV(cs:List AV):AV:=match Hk cs with|some ds=>.d (.agg ds)|none=>.agg cs
def IE:Value->AV
 | .bool b=>.d (.bool b)
 | .int k n=>.d (.int k n)
 | .string s=>.d (.str s.data.toList)
 | .slice none 0 0=>.AA
 | .pointer none=>.d (.raw (.pointer none))
 | .map none=>.d (.raw (.map none))
 | .nilFunc=>.d (.raw .nilFunc)
 | .nilIface=>.d (.raw .nilIface)
 | _=>.undef
def EZ:Value->AV
 | .agg cs=>if(cs.toList.map IE).all AV.one then FV (cs.toList.map IE) else .undef
 | v=>IE v
abbrev BM:=List (Nat×D)
def N_(Gl:BM)(g:Nat):AV:=match Gl.find? (λp=>p.1==g) with|some p=>.B8 p.2.cells.length [p.2] 0 0|none=>.undef
def evO(Gl:BM)(env:Env):Operand->AV
 | .tmp t=>Bl env t
 | .const v=>EZ v
 | .global g=>N_ Gl g
 | .func f=>.fn f []
def Cv(S:Sto):AV->D
 | .d x=>x
 | .AA=>.sl []
 | .A8 id off len=>.sl (((A1 S id).xs.drop off).take len)
 | _=>default
def EH(S:Sto):AV->Bool
 | .d _=>true
 | .AA=>true
 | .A8 id _ _=>(A1 S id).AY
 | _=>false
def HE:AV->List Nat
 | .A8 id _ _=>[id]
 | _=>[]
def AV.A5(S:Sto):AV->D
 | .agg cs=>.agg (cs.map (Cv S))
 | v=>Cv S v
def AV.Db(S:Sto):AV->Bool
 | .agg cs=>cs.all (EH S)
 | v=>EH S v
def AV.refs:AV->List Nat
 | .agg cs=>cs.flatMap HE
 | v=>HE v
def freezeL(S:Sto)(l:List Nat):Sto:=l.foldl freeze S
def BR(P:Program)(t:TypeId):Option Bool:=
 match P.underlying t with
 | some (.struct _)=>some true
 | some (.array _ _)=>some true
 | some _=>some false
 | none=>none
def tsz(P:Program)(t:TypeId):Option Nat:=(P.info? t).map (·.size)
def Bj(P:Program)(t:TypeId):Option Value:=(P.info? t).bind (·.zero)
def Az(P:Program)(s:TypeId)(f:Nat):Option (Nat×Nat×Bool):=
 match P.underlying s with
 | some (.struct fs)=>match fs[f]? with
  | some x=>match tsz P x.type,BR P x.type with
   | some n,some g=>some (x.offset,n,g)
   | _,_=>none
  | none=>none
 | _=>none
def Cn(P:Program)(t:TypeId):Option (Option Nat×Nat):=
 match P.underlying t with
 | some (.slice e)=>(tsz P e).map λn=>(none,n)
 | some (.array k e)=>(tsz P e).map λn=>(some k,n)
 | _=>none
def B_(P:Program)(t:TypeId):Option TypeId:=
 match P.underlying t with
 | some (.slice e)=>some e
 | _=>none
def E_(P:Program)(t:TypeId):Option Nat:=(P.info? t).map (·.bytes)
def LX(P:Program)(t:TypeId):Bool:=match P.underlying t with|some .string=>true|_=>false
def AV.HC:AV->Nat->Nat->AV
 | .d x,off,n=>.d (x.sub off n)
 | .agg cs,off,n=>FV ((cs.drop off).take n)
 | v,_,_=>v
def LG(N off n:Nat)(g whole:Bool):Prop:=off+n<=N/\(if off=0/\n=N then whole=g else(whole=true/\(g=true\/n=1)))
def AV.FK(v:AV)(N off n:Nat)(g:Bool):AV:=if off=0/\n=N then v else if g=true then v.HC off n else v.cellAt off
def D.Ej(x:D)(N off n:Nat)(g:Bool):D:=if off=0/\n=N then x else if g=true then x.sub off n else x.cell off
def Blk.F7:Blk->Nat
 | .box n _=>n
 | _=>0
def Blk.Gu:Blk->AV
 | .box _ v=>v
 | _=>.undef
def Blk.EN:Blk->Bool
 | .box ..=>true
 | _=>false
def Blk.BN:Blk->Bool
 | .arr ..=>true
 | _=>false
def Blk.isVar:Blk->Bool
 | .var ..=>true
 | _=>false
def Blk.cells:Blk->List AV
 | .var _ cs=>cs
 | _=>[]
def Rj(cs:List AV)(k n:Nat)(g:Bool):AV:=if g=true then FV ((cs.drop k).take n) else cs.getD k .undef
def putCells(cs:List AV)(k:Nat):Nat->AV->List AV
 | 0,_=>cs
 | n+1,u=>(putCells cs k n u).set (k+n) (u.cellAt n)
def JM(S:Sto)(g:Bool)(n:Nat):AV->Prop
 | .d (.ref x)=>LG x.cells.length 0 n g x.isAgg
 | .ptr id off=>(A1 S id).EN=true/\LG (A1 S id).F7 off n g (A1 S id).Gu.isAgg
 | .B8 es xs i off=>i<xs.length/\LG es off n g (xs.getD i default).isAgg
 | .Al id i off=>if(A1 S id).isVar=true then i<(A1 S id).xs.length/\off+n<=(A1 S id).es/\(g=true\/n=1)
   else(A1 S id).AY=true/\i<(A1 S id).xs.length/\LG (A1 S id).es off n g ((A1 S id).xs.getD i default).isAgg
 | _=>False
def ldV(S:Sto)(g:Bool)(n:Nat):AV->AV
 | .d (.ref x)=>.d (x.Ej x.cells.length 0 n g)
 | .ptr id off=>(A1 S id).Gu.FK (A1 S id).F7 off n g
 | .B8 es xs i off=>.d ((xs.getD i default).Ej es off n g)
 | .Al id i off=>if(A1 S id).isVar=true then Rj (A1 S id).cells (i*(A1 S id).es+off) n g
   else .d (((A1 S id).xs.getD i default).Ej (A1 S id).es off n g)
 | _=>.undef
def Ns(v:AV)(N off n:Nat)(u:AV):AV:=
 if off=0/\n=N then u else FV ((List.range N).map λj=>if off<=j/\j<off+n then u.cellAt (j-off) else v.cellAt j)
def Qz(S:Sto)(n:Nat)(u:AV):AV->Prop
 | .ptr id off=>(A1 S id).EN=true/\off+n<=(A1 S id).F7/\u.storable=true/\u.AO=n
 | .Al id i off=>if(A1 S id).isVar=true then i<(A1 S id).xs.length/\off+n<=(A1 S id).es/\u.storable=true/\u.AO=n
   else(A1 S id).BN=true/\i<(A1 S id).xs.length/\off+n<=(A1 S id).es/\u.Db S=true/\(u.A5 S).cells.length=n/\(¬id∈u.refs)
 | _=>False
def stS(S:Sto)(n:Nat)(u:AV):AV->Sto
 | .ptr id off=>S.set id (.box (A1 S id).F7 (Ns (A1 S id).Gu (A1 S id).F7 off n u))
 | .Al id i off=>if(A1 S id).isVar=true then S.set id (.var (A1 S id).es (putCells (A1 S id).cells (i*(A1 S id).es+off) n u))
   else(freezeL S u.refs).set id (.arr (A1 S id).es ((A1 S id).xs.set i (((A1 S id).xs.getD i default).putAt (A1 S id).es off n (u.A5 S))))
 | _=>S
def Il(xs:List D)(off n:Nat)(z:D):List D:=(List.range xs.length).map λi=>if off<=i/\i<off+n then z else xs.getD i default
def M0(op:BinOp)(k:IntKind)(a b:Int):D:=
 match op with
 | .add=>.int k (k.wrap (a+b))
 | .sub=>.int k (k.wrap (a-b))
 | .mul=>.int k (k.wrap (a*b))
 | .quo=>.int k (k.wrap (a.tdiv b))
 | .rem=>.int k (a.tmod b)
 | .and=>.int k (k.wrap ((BitVec.ofInt k.bits a) &&& (BitVec.ofInt k.bits b)).toNat)
 | .or=>.int k (k.wrap ((BitVec.ofInt k.bits a) ||| (BitVec.ofInt k.bits b)).toNat)
 | .xor=>.int k (k.wrap ((BitVec.ofInt k.bits a) ^^^ (BitVec.ofInt k.bits b)).toNat)
 | .andNot=>.int k (k.wrap ((BitVec.ofInt k.bits a) &&& ~~~(BitVec.ofInt k.bits b)).toNat)
 | .shl=>.int k (k.wrap (a*2 ^ (min b.toNat k.bits)))
 | .shr=>.int k (a.fdiv (2 ^ (min b.toNat k.bits)))
 | .eql=>.bool (a==b)
 | .neq=>.bool (a !=b)
 | .lss=>.bool (decide (a<b))
 | .leq=>.bool (decide (a<=b))
 | .gtr=>.bool (decide (a>b))
 | .geq=>.bool (decide (a>=b))
def HP(op:BinOp)(k k':IntKind)(b:Int):Prop:=
 match op with
 | .shl|.shr=>0<=b
 | .quo|.rem=>k=k'/\b≠0
 | _=>k=k'
def OT(op:BinOp)(a b:List UInt8):D:=
 match op with
 | .add=>.str (a++b)
 | .eql=>.bool (a==b)
 | .neq=>.bool (!(a==b))
 | .lss=>.bool (Op.bytesLess a b)
 | .leq=>.bool (Op.bytesLess a b||a==b)
 | .gtr=>.bool (!(Op.bytesLess a b||a==b))
 | .geq=>.bool (!(Op.bytesLess a b))
 | _=>default
def NF(op:BinOp)(a b:List UInt8):Prop:=
 match op with
 | .add=>((a.length+b.length:Nat):Int)<=9223372036854775807
 | .eql|.neq|.lss|.leq|.gtr|.geq=>True
 | _=>False
def D.HW:D->D->Bool
 | .int _ a,.int _ b=>a==b
 | .bool a,.bool b=>a==b
 | .str a,.str b=>a==b
 | _,_=>false
def D.IT:D->Nat->D->Bool
 | .int k _,0,.int k' _=>decide (k=k')
 | .bool _,1,.bool _=>true
 | .str _,2,.str _=>true
 | _,_,_=>false
def EX:List D->List D->Bool
 | a::r,b::s=>a.HW b&&EX r s
 | _,_=>true
def G8:List Nat->List D->List D->Bool
 | c::cs,a::r,b::s=>a.IT c b&&G8 cs r s
 | [],[],[]=>true
 | _,_,_=>false
def FQ(op:BinOp):D->D->D
 | .int k a,.int _ b=>M0 op k a b
 | .str a,.str b=>OT op a b
 | .bool a,.bool b=>match op with|.eql=>.bool (a==b)|.neq=>.bool (!(a==b))|_=>default
 | .agg a,.agg b=>match op with|.eql=>.bool (EX a b)|.neq=>.bool (!(EX a b))|_=>default
 | _,_=>default
def SR(P:Program)(g:TypeId->Option (List Nat)):List Field->Nat->Option (List Nat)
 | [],_=>some []
 | f::r,o=>if f.name ≠ "_" /\ f.offset=o then
   match g f.type with
   | some l=>if tsz P f.type=some l.length/\0<l.length then(match SR P g r (o+l.length) with|some l'=>some (l++l')|none=>none) else none
   | none=>none
  else none
def Lv(P:Program):Nat->TypeId->Option (List Nat)
 | 0,_=>none
 | d+1,t=>match P.underlying t with
  | some (.int _)=>some [0]
  | some .bool=>some [1]
  | some .string=>some [2]
  | some (.struct fs)=>if P.stoodInHeld t=false then SR P (Lv P d) fs.toList 0 else none
  | some (.array n e)=>match Lv P d e with
   | some l=>if tsz P e=some l.length/\0<l.length then some (List.replicate n l).flatten else none
   | none=>none
  | _=>none
def LV(P:Program)(t:TypeId):Option (List Nat):=if BR P t=some true/\P.eqGuardType P.depth t=false then Lv P 6 t else none
def JA(P:Program)(t:TypeId)(op:BinOp):D->D->Prop
 | .int k _,.int k' b=>HP op k k' b
 | .str a,.str b=>NF op a b
 | .bool _,.bool _=>(match op with|.eql|.neq=>True|_=>False)/\P.underlying t=some .bool
 | .agg a,.agg b=>(match op with|.eql|.neq=>True|_=>False)/\(match LV P t with|some l=>G8 l a b=true|none=>False)
 | _,_=>False
def Qh(P:Program)(t:TypeId):Bool:=match P.underlying t with|some (.int .i64)=>decide (tsz P t=some 1)|_=>false
def Z9(P:Program)(fs:Array Field):Bool:=match fs.toList with
 | [f,g]=>decide (f.name ≠ "_")&&decide (g.name ≠ "_")&&decide (f.offset=0)&&decide (g.offset=1)&&Qh P f.type&&Qh P g.type
 | _=>false
def Co(P:Program)(t:TypeId):Option (Option IntKind×TypeId):=
 match P.underlying t with
 | some (.map k e)=>match P.underlying k with
  | some (.int ik)=>if ik=.u8 then none else some (some ik,e)
  | some .string=>some (none,e)
  | some (.struct fs)=>if(Z9 P fs&&(Lv P 6 k==some [0,0]))=true then some (some .u8,e) else none
  | some (.array n el)=>if(decide (n=2)&&Qh P el&&(Lv P 6 k==some [0,0]))=true then some (some .u8,e) else none
  | _=>none
 | _=>none
def Ko(P:Program)(t:TypeId):Bool:=match P.underlying t with|some (.pointer _)=>true|_=>false
def Cp(P:Program)(t:TypeId):AV:=match Bj P t with|some z=>EZ z|none=>.undef
def CK:AV->Aw
 | .d (.int _ n)=>.i n
 | .d (.str l)=>.s l
 | .d (.agg [.int _ a,.int _ b])=>.p a b
 | _=>.i 0
def Hf(ik:Option IntKind):AV->Prop
 | .d (.int k _)=>ik=some k/\k≠.u8
 | .d (.agg [.int .i64 _,.int .i64 _])=>ik=some .u8
 | .d (.str _)=>ik=none
 | _=>False
def BO(f:Aw->Option AV)(k:Aw)(v:AV):Aw->Option AV:=λk'=>if k'=k then some v else f k'
def Kl(f:Aw->Option AV)(k:Aw):Aw->Option AV:=λk'=>if k'=k then none else f k'
def P6(S:Sto)(ik:Option IntKind):AV->Prop
 | .AF id=>(A1 S id).CC=true/\(A1 S id).mk=ik
 | .d (.raw (.map none))=>True
 | _=>False
def lkF(S:Sto):AV->Aw->Option AV
 | .AF id=>(A1 S id).mf
 | _=>λ_=>none
def Qx(S:Sto)(ik:Option IntKind)(m v:AV):Prop:=match m with
 | .AF id=>(A1 S id).CC=true/\(A1 S id).mk=ik/\v.storable=true
 | _=>False
def muS(S:Sto)(k:Aw)(v:AV):AV->Sto
 | .AF id=>S.set id (.map (A1 S id).mk (BO (A1 S id).mf k v))
 | _=>S
def mdS(S:Sto)(k:Aw):AV->Sto
 | .AF id=>S.set id (.map (A1 S id).mk (Kl (A1 S id).mf k))
 | _=>S
def Fk:AV->AV
 | .AA=>.d (.bool true)
 | .d (.raw _)=>.d (.bool true)
 | .d (.sl xs)=>if xs.isEmpty=true then .BY else .d (.bool false)
 | .A8 _ _ n=>if n=0 then .BY else .d (.bool false)
 | .ptr ..|.B8 ..|.Al ..|.AF _=>.d (.bool false)
 | _=>.undef
def LD(op:BinOp)(a:AV):AV:=match op,a with
 | .eql,a=>a
 | .neq,.d (.bool b)=>.d (.bool (!b))
 | .neq,.BY=>.BY
 | _,_=>.undef
def ku(P:Program)(t:TypeId)(op:BinOp)(u v:AV):Prop:=(op=.eql\/op=.neq)/\match v,u with
 | .AA,.AA=>(B_ P t).isSome=true
 | .AA,.d (.sl _)=>(B_ P t).isSome=true
 | .AA,.A8 ..=>(B_ P t).isSome=true
 | .d (.raw (.pointer none)),.ptr ..=>Ko P t=true
 | .d (.raw (.pointer none)),.B8 ..=>Ko P t=true
 | .d (.raw (.pointer none)),.Al ..=>Ko P t=true
 | .d (.raw (.pointer none)),.d (.raw (.pointer none))=>Ko P t=true
 | .d (.raw (.map none)),.AF _=>(Co P t).isSome=true
 | .d (.raw (.map none)),.d (.raw (.map none))=>(Co P t).isSome=true
 | _,_=>False
def AV.IQ:AV->Bool
 | .AA=>true
 | .d (.raw _)=>true
 | _=>false
def Zt(op:BinOp):AV->AV->AV
 | .d x,.d y=>.d (FQ op x y)
 | _,_=>.undef
def Ki(op:BinOp)(u v:AV):AV:=if v.IQ=true then LD op (Fk u) else Zt op u v
def iM(P:Program)(t:TypeId)(op:BinOp):AV->AV->Prop
 | .d x,.d y=>JA P t op x y
 | _,_=>False
def Jk(P:Program)(t:TypeId)(op:BinOp)(u v:AV):Prop:=if v.IQ=true then ku P t op u v else iM P t op u v
def unV(op:UnOp):AV->AV
 | .d (.int k n)=>match op with
  | .neg=>.d (.int k (k.wrap (0-n)))
  | .xor=>.d (M0 .xor k (if k.signed then -1 else k.max) n)
  | _=>.undef
 | .d (.bool b)=>match op with
  | .not=>.d (.bool (!b))
  | _=>.undef
 | _=>.undef
def PA(op:UnOp):AV->Prop
 | .d (.int _ _)=>match op with|.neg|.xor=>True|_=>False
 | .d (.bool _)=>match op with|.not=>True|_=>False
 | _=>False
def AV.len:AV->Nat
 | .d (.sl xs)=>xs.length
 | .d (.str s)=>s.length
 | .A8 _ _ n=>n
 | _=>0
def AV.DU(P:Program)(t:TypeId):AV->Bool
 | .d (.sl _)=>(B_ P t).isSome
 | .A8 _ _ _=>(B_ P t).isSome
 | .AA=>(B_ P t).isSome
 | .d (.str _)=>LX P t
 | _=>false
def AV.elems(S:Sto):AV->List D
 | .d (.sl xs)=>xs
 | .A8 id off len=>((A1 S id).xs.drop off).take len
 | _=>[]
def Na(S:Sto)(es:Nat)(i:Int):AV->Prop
 | .d (.sl xs)=>0<=i/\i<xs.length/\(xs.getD i.toNat default).cells.length=es
 | .A8 id _ len=>0<=i/\i<len/\(A1 S id).B7=true/\(A1 S id).es=es
 | _=>False
def Sq(es:Nat)(i:Int):AV->AV
 | .d (.sl xs)=>.B8 es xs i.toNat 0
 | .A8 id off _=>.Al id (off+i.toNat) 0
 | _=>.undef
def ZF(k:Nat)(i:Int)(p:AV):Prop:=p.Di=true/\0<=i/\i<k/\2<=k
def LP(P:Program)(t:TypeId)(S:Sto)(lo hi:Int):AV->Prop
 | .d (.str s)=>LX P t=true/\0<=lo/\lo<=hi/\hi<=s.length
 | .d (.sl xs)=>((Cn P t).isSome=true/\(B_ P t).isSome=true)/\0<=lo/\lo<=hi/\hi<=xs.length/\(match Cn P t with|some (_,es)=>∀x∈xs,x.cells.length=es|none=>False)
 | .A8 id _ len=>(B_ P t).isSome=true/\0<=lo/\lo<=hi/\hi<=len/\(A1 S id).B7=true/\Cn P t=some (none,(A1 S id).es)
 | .AA=>(B_ P t).isSome=true/\(Cn P t).isSome=true/\lo=0/\hi=0
 | _=>False
def slV(lo hi:Int):AV->AV
 | .d (.str s)=>.d (.str ((s.take hi.toNat).drop lo.toNat))
 | .d (.sl xs)=>.d (.sl ((xs.take hi.toNat).drop lo.toNat))
 | .A8 id off _=>.A8 id (off+lo.toNat) (hi.toNat-lo.toNat)
 | .AA=>.AA
 | _=>.undef
end Go.AM


namespace Go.AM
variable {P:Program} {w:World} {I:Im} {μ:Pos} {σ:Sto}
def yD(s:ByteArray):(⟨s.data.toList.toArray⟩:ByteArray)=s:=by
 cases s;simp
def U_:∀{cs:List AV} {ds:List D},Hk cs=some ds->cs=ds.map AV.d
 | [],ds,h=>by simp[Hk] at h;subst h;rfl
 | c::r,ds,h=>by
  cases c<;>simp only[Hk] at h<;>first|cases h|skip;rename_i x;cases hr:Hk r with
  | none=>simp[hr] at h
  | some l=>
   simp[hr] at h;subst h;rw[U_ hr];rfl
def AL.Ar{v:Value}{x:D}(h:AL w I μ σ v (.d x)):BU w I v x:=by cases h;assumption
def QM{vs:List Value}{cs:List AV}(hl:vs.length=cs.length)(hone:∀c∈cs,c.one=true)
  (h:∀(i:Nat) (v:Value) (x:AV),vs[i]? = some v->cs[i]? = some x->AL w I μ σ v x):AL w I μ σ (.agg vs.toArray) (FV cs):=by
 unfold FV;cases hd:Hk cs with
 | none=>exact .agg vs cs hl hone h
 | some ds=>
  have e:=U_ hd;subst e;refine .d _ _ (.agg vs ds Hb (λc hc=>hone (.d c) (C4.2 ⟨c,hc,rfl⟩)) λi v x hv hx=>?_);exact(h i v (.d x) hv (by simp[hx])).Ar
def Xt(v:Value):AL w I μ σ v (IE v):=by
 unfold IE;split<;>first
  | exact .d _ _ (.bool _)
  | exact .d _ _ (.int _ _)
  | exact .AA
  | exact .undef _
  | (refine .d _ _ ?_;rename_i s;have:=BU.str (w:=w) (I:=I) s.data.toList;rwa [yD] at this)
  | exact .d _ _ (.raw _ rfl)
def Um(v:Value):AL w I μ σ v (EZ v):=by
 cases v with
 | agg cs=>
  show AL w I μ σ _ (if(cs.toList.map IE).all AV.one then FV (cs.toList.map IE) else .undef);by_cases h:(cs.toList.map IE).all AV.one=true
  ·rw[AD h];have:=QM (w:=w) (I:=I) (μ:=μ) (σ:=σ) (vs:=cs.toList) (cs:=cs.toList.map IE) A6 (λc hc=>EW.1 h c hc) (λi v x hv hx=>by
    rw[DG,hv] at hx
    simp only[DF,BF] at hx
    subst hx
    exact Xt v)
   simpa only[Array.toArray_toList] using this
  rw[A7 h];exact .undef _
 | _=>exact Xt _
def yK(Gl:BM)(hG:∀p∈Gl,J1 w I p.1 0 p.2.cells.length [p.2])(g:Nat):AL w I μ σ (.pointer (some ⟨g,0,none⟩)) (N_ Gl g):=by
 unfold N_;cases h:Gl.find? (λp=>p.1==g) with
 | none=>exact .undef _
 | some p=>
  have h1:=List.mem_of_find?_eq_some h;have h2:=List.find?_some h;simp at h2;subst h2;simpa using AL.B8 (w:=w) (I:=I) (μ:=μ) (σ:=σ) p.1 0 p.2.cells.length [p.2] 0 0 (hG p h1)
def tv{n:Nat}{Gl:BM}(hG:∀p∈Gl,J1 w I p.1 0 p.2.cells.length [p.2]){env:Env}{a:Act}(h:C9 n w I μ σ env a)(x:Operand):AL w I μ σ (a.eval x) (evO Gl env x):=by
 cases x with
 | tmp t=>exact h.slot t
 | const v=>exact Um v
 | global g=>exact yK Gl hG g
 | func f=>exact .fn f [] [] rfl (λi v x hv=>RN)
def jA{v:Value}{x:AV}(h:AL w I μ σ v x)(hg:x.vg=true):AL w I μ σ v x.un:=by
 cases h with
 | iff g _ x h1 h2=>exact h1 hg
 | AF _ id hid h=>exact .AF _ id hid h
 | BY b=>exact .BY b
 | undef=>exact .undef _
 | d _ _ h=>exact .d _ _ h
 | AA=>exact .AA
 | agg vs cs hl hone h=>exact .agg vs cs hl hone h
 | ptr _ id off hid h=>exact .ptr _ id off hid h
 | B8 b o es xs i off h=>exact .B8 b o es xs i off h
 | Al _ id i off hid h=>exact .Al _ id i off hid h
 | A8 _ id off len hid h=>exact .A8 _ id off len hid h
 | fn f vs caps hl h=>exact .fn f vs caps hl h
 | Aj vs cs hl h=>exact .Aj vs cs hl h
def QT{t:TypeId}{g:Bool}(h:BR P t=some g):(isAgg t).run P w=.ok g w:=by
 unfold BR at h;unfold isAgg underlying;cases hu:P.underlying t with
 | none=>rw[hu] at h;cases h
 | some d=>
  rw[hu] at h;cases d<;>simp at h<;>subst h<;>simp[hu]
def Ju{t:TypeId}{n:Nat}(h:tsz P t=some n):(sizeOf t).run P w=.ok n w:=by
 unfold tsz at h;unfold sizeOf typeInfo;cases hi:P.info? t with
 | none=>rw[hi] at h;cases h
 | some i=>rw[hi] at h;simp at h;subst h;simp[hi]
def YH{t:TypeId}{z:Value}(h:Bj P t=some z):(zeroValue t).run P w=.ok z w:=by
 unfold Bj at h;unfold zeroValue typeInfo;cases hi:P.info? t with
 | none=>rw[hi] at h;cases h
 | some i=>rw[hi] at h;simp at h;simp[hi,h]
def KT(b o j:Nat):(⟨b,o,none⟩:Addr).add j=⟨b,o+j,none⟩:=by
 unfold Addr.add;split
 ·subst_vars;rfl
 rfl
def YE{t:TypeId}{b o:Nat}(h1:BR P t=some true)(cs:List Value)(h2:tsz P t=some cs.length)(h:∀j v,cs[j]? = some v->w.cell? ⟨b,o+j,none⟩=some v):
  (loadVar t ⟨b,o,none⟩).run P w=.ok (.agg cs.toArray) w:=by
 unfold loadVar;simp only[Sem.run_bind,QT h1,Result.andThen_ok,By,Ju h2];rw[run_loadCells_list w _ cs (λj v hv=>by rw[KT];exact h j v hv)];rfl
def YF{t:TypeId}{a:Addr}{v:Value}(h1:BR P t=some false)(h:w.cell? a=some v):(loadVar t a).run P w=.ok v w:=by
 unfold loadVar;simp only[Sem.run_bind,QT h1,Result.andThen_ok];simp[h]
def D.Bv{x:D}(h:x.isAgg=false):x.cells=[x]:=by cases x<;>simp_all [D.isAgg,D.cells]
def D.DV{x:D}(h:x.isAgg=true):x=.agg x.cells:=by cases x<;>simp_all [D.isAgg,D.cells]
def D.one_of_not_agg{x:D}(h:x.isAgg=false):x.one=true:=by cases x<;>simp_all [D.isAgg,D.one]
def BU.flat{v:Value}{x:D}(h:BU w I v x):x.flat:=by
 cases h<;>intro c hc<;>simp[D.cells] at hc<;>first|(subst hc;rfl)|skip;rename_i h _;exact h c hc
def BU.Dv{v:Value}{x:D}(h:BU w I v x)(h1:x.one=true):v.oneCell'=true:=by
 cases h<;>simp_all [D.one,Value.oneCell'];rename_i h;cases v<;>simp_all [eB]
def XN{t:TypeId}{g:Bool}{n N off b B:Nat}{x:D}(hk:BR P t=some g)(hs:tsz P t=some n)(hN:x.cells.length=N)(hf:x.flat)
  (hc:∀(j:Nat) (y:D),x.cells[j]? = some y->∃v,w.cell? ⟨b,B+j,none⟩=some v/\BU w I v y) (ho:LG N off n g x.isAgg) :
  ∃u,(loadVar t ⟨b,B+off,none⟩).run P w=.ok u w/\BU w I u (x.Ej N off n g):=by
 obtain⟨h1,h2⟩:=ho;have hget:∀j,j<n->∃v y,x.cells[off+j]? = some y/\w.cell? ⟨b,B+off+j,none⟩=some v/\BU w I v y:=λj hj=>by
  have hlt:off+j<x.cells.length:=oo;obtain⟨v,hv,hr⟩:=hc (off+j) _ (BP hlt);exact⟨v,_,BP hlt,by rw[G1];exact hv,hr⟩
 cases g with
 | true=>
  let cs:List Value:=(List.range n).map λj=>(w.cell? ⟨b,B+off+j,none⟩).getD Go.undef
  have hlen:cs.length=n:=by simp[cs]
  have hrun:=YE (P:=P) (w:=w) (t:=t) (b:=b) (o:=B+off) hk cs (by rw[hlen];exact hs) (λj v hv=>by
   simp only[cs,DG] at hv
   rcases B9 j n with hj|hj
   ·obtain⟨v',y,_,hv',_⟩:=hget j hj
    simp[hj,hv'] at hv
    subst hv;exact hv'
   simp[hj] at hv)
  refine⟨_,hrun,?_⟩;have key:BU w I (.agg cs.toArray) (x.sub off n):=by
   refine .agg cs ((x.cells.drop off).take n) TX (λc hc=>hf c (K7 (GS hc))) λi v y hv hy=>?_;rcases B9 i n with hi|hi
   ·obtain⟨v',y',hy',hv',hr⟩:=hget i hi;rw[GH hi,IW,hy'] at hy;simp only[cs,DG] at hv;simp[hi,hv'] at hv;simp at hy;subst hv;subst hy;exact hr
   rw[Bt TX] at hv;cases hv
  unfold D.Ej;split
  ·rename_i he;rw[AD he] at h2;have:x.sub off n=x:=by
    obtain⟨rfl,rfl⟩:=he;exact oT
   rwa [this] at key
  simpa using key
 | false=>
  have hn:n=1:=by
   split at h2
   ·rename_i he;have:=D.Bv h2;rw[this] at hN;simp at hN;omega
   simpa using h2.2
  subst hn;obtain⟨v,y,hy,hv,hr⟩:=hget 0 oo;refine⟨v,YF hk hv,?_⟩;unfold D.Ej;split
  ·rename_i he;rw[AD he] at h2;obtain⟨rfl,rfl⟩:=he;rw[D.Bv h2] at hy;simp at hy;subst hy;exact hr
  simp only[Cx,CF];unfold D.cell;rw[B5];rw[Gb] at hy;rw[hy];exact hr
def AV.cellAt_of_not_agg{v:AV}(h:v.isAgg=false):v.cellAt 0=v:=by
 cases v<;>simp_all [AV.isAgg,AV.cellAt];rename_i x;unfold D.cell;rw[D.Bv h];rfl
def AV.ncells_of_not_agg{v:AV}(h:v.isAgg=false):v.AO=1:=by
 cases v<;>simp_all [AV.isAgg,AV.AO];rename_i x;rw[D.Bv h];rfl
def Qem{t:TypeId}{g:Bool}{n N off b B:Nat}{v:AV}(hk:BR P t=some g)(hs:tsz P t=some n)(hN:v.AO=N)
  (hc:∀j,j<N->(v.cellAt j).one=true/\∃u,w.cell? ⟨b,B+j,none⟩=some u/\AL w I μ σ u (v.cellAt j)) (ho:LG N off n g v.isAgg) :
  ∃u,(loadVar t ⟨b,B+off,none⟩).run P w=.ok u w/\AL w I μ σ u (v.FK N off n g):=by
 obtain⟨h1,h2⟩:=ho;have hget:∀j,j<n->(v.cellAt (off+j)).one=true/\∃u,w.cell? ⟨b,B+off+j,none⟩=some u/\AL w I μ σ u (v.cellAt (off+j)):=λj hj=>by
  obtain⟨h3,u,hu,hr⟩:=hc (off+j) oo;exact⟨h3,u,by rw[G1];exact hu,hr⟩
 cases g with
 | true=>
  let cs:List Value:=(List.range n).map λj=>(w.cell? ⟨b,B+off+j,none⟩).getD Go.undef
  have hlen:cs.length=n:=by simp[cs]
  have hcs:∀i u,cs[i]? = some u->i<n/\w.cell? ⟨b,B+off+i,none⟩=some u:=λi u hu=>by
   simp only[cs,DG] at hu;rcases B9 i n with hi|hi
   ·obtain⟨_,u',hu',_⟩:=hget i hi;simp[hi,hu'] at hu;subst hu;exact⟨hi,hu'⟩
   simp[hi] at hu
  have hrun:=YE (P:=P) (w:=w) (t:=t) (b:=b) (o:=B+off) hk cs (by rw[hlen];exact hs) (λj u hu=>(hcs j u hu).2);refine⟨_,hrun,?_⟩;have rep:∀i u,cs[i]? = some u->AL w I μ σ u (v.cellAt (off+i)):=λi u hu=>by
   obtain⟨hi,hu'⟩:=hcs i u hu;obtain⟨_,u2,hu2,hr⟩:=hget i hi;rw[hu2] at hu';simp at hu';subst hu';exact hr
  cases v with
  | d x=>
   have hx:∀j,j<N->(x.cell j).one=true:=λj hj=>(hc j hj).1;have hxl:x.cells.length=N:=hN;have key:BU w I (.agg cs.toArray) (x.sub off n):=by
    refine .agg cs ((x.cells.drop off).take n) TX (λc hc'=>?_) λi u y hu hy=>?_
    ·obtain⟨k,hk'⟩:=GF (K7 (GS hc'));have hkl:k<x.cells.length:=by
      rcases B9 k x.cells.length with h'|h'
      ·exact h'
      rw[Bt h'] at hk';cases hk'
     have:=hx k oo;unfold D.cell at this;rw[B5,hk'] at this;exact this
    have hi:=(hcs i u hu).1;have:=(rep i u hu).Ar;rw[GH hi,IW] at hy;unfold D.cell at this;rw[B5,hy] at this;exact this
   show AL w I μ σ _ (AV.FK _ _ _ _ _);unfold AV.FK;split
   ·rename_i he;rw[AD he] at h2;obtain⟨rfl,rfl⟩:=he;have:x.sub 0 n=x:=by
     exact oT
    rw[this] at key;exact .d _ _ key
   simp only[By,AV.HC];exact .d _ _ key
  | agg l=>
   have hll:l.length=N:=hN;have key:AL w I μ σ (.agg cs.toArray) (FV ((l.drop off).take n)):=by
    refine QM TX (λc hc'=>?_) λi u y hu hy=>?_
    ·obtain⟨k,hk'⟩:=GF (K7 (GS hc'));exact oz
    have hi:=(hcs i u hu).1;have:=rep i u hu;rw[GH hi,IW] at hy;simp only[AV.cellAt,B5,hy,EA] at this;exact this
   unfold AV.FK;split
   ·rename_i he;obtain⟨rfl,rfl⟩:=he;refine .agg cs l oo (λc hc'=>?_) λi u y hu hy=>?_
    ·obtain⟨k,hk'⟩:=GF hc';exact oz
    have:=rep i u hu;simp only[AV.cellAt,B5,EU,hy,EA] at this;exact this
   simp only[By,AV.HC];exact key
  | _=>
   exfalso;split at h2<;>simp[AV.isAgg] at h2
 | false=>
  have hn:n=1:=by
   split at h2
   ·rename_i he;have:=AV.ncells_of_not_agg h2;omega
   simpa using h2.2
  subst hn;obtain⟨_,u,hu,hr⟩:=hget 0 oo;refine⟨u,YF hk hu,?_⟩;unfold AV.FK;split
  ·rename_i he;rw[AD he] at h2;obtain⟨rfl,rfl⟩:=he;rw[AV.cellAt_of_not_agg h2] at hr;exact hr
  simpa using hr
end Go.AM


namespace Go.AM
variable {P:Program} {w:World} {I:Im} {μ:Pos} {σ:Sto}
def LJ(σ:Sto)(id i:Nat):A1 (freeze σ id) i=if id=i then(A1 σ i).frozen else A1 σ i:=by
 unfold freeze;by_cases e:id=i
 ·subst e;rw[AD rfl];rcases B9 id σ.length with h|h
  ·rw[BX h]
  rw[lD h];unfold A1;rw[B5,Bt h];rfl
 rw[A7 e,As e]
def Blk.F6(B:Blk):B.frozen.xs=B.xs/\B.frozen.AY=B.AY/\B.frozen.es=B.es:=by cases B<;>exact⟨rfl,rfl,rfl⟩
def Blk.frozen_own(B:Blk)(h:B.AY=true):B.frozen.own=false:=by cases B<;>simp_all [Blk.frozen,Blk.own,Blk.AY]
def Blk.frozen_own'(B:Blk)(h:B.own=false):B.frozen.own=false:=by cases B<;>simp_all [Blk.frozen,Blk.own]
def On(h:Rel w I μ σ)(l:List Nat):∃I',Rel w I' μ (freezeL σ l)/\Ay σ.length w I μ σ w I' μ (freezeL σ l)/\(freezeL σ l).length=σ.length /\
  (∀id,id∈l->(A1 σ id).AY=true->(A1 (freezeL σ l) id).own=false) /\
  (∀id,(A1 (freezeL σ l) id).xs=(A1 σ id).xs/\(A1 (freezeL σ l) id).AY=(A1 σ id).AY) /\
  (∀id,(A1 σ id).own=false->(A1 (freezeL σ l) id).own=false) /\
  (∀id,id∉l->A1 (freezeL σ l) id=A1 σ id)/\(∀b,I'.fr b->I.fr b\/∃id o,id∈l/\(A1 σ id).own=true/\(A1 σ id).AY=true/\μ id=some (b,o)):=by
 induction l generalizing I σ with
 | nil=>exact⟨I,h,Ay.refl _ _ _ _ (AR _),rfl,(λ_ h=>D8),λ_=>⟨rfl,rfl⟩,λ_ h=>h,λ_ _=>rfl,λ_ h=>.inl h⟩
 | cons a l ih=>
  have h1:=h.freeze a;have k1:Ay σ.length w I μ σ w (V2 I μ σ a) μ (freeze σ a):=Uq h a;have hlen:(freeze σ a).length=σ.length:=by simp[freeze]
  obtain⟨I',r1,r2,r3,r4,r5,r6,r7,r8⟩:=ih h1;rw[hlen] at r2 r3;refine⟨I',r1,k1.trans r2,r3,λid hid hz=>?_,λid=>?_,λid ho=>?_,λid hid=>?_,λb hb=>?_⟩
  ·by_cases e:a=id
   ·subst e;refine r6 a ?_;rw[LJ,AD rfl];exact Blk.frozen_own _ hz
   cases hid with
   | head=>exact absurd rfl e
   | tail _ hid=>
    refine r4 id hid ?_;rw[LJ,A7 e];exact hz
  ·obtain⟨e1,e2⟩:=r5 id;rw[LJ] at e1 e2;split at e1<;>rename_i hc
   ·rw[AD hc] at e2;exact⟨e1.trans (Blk.F6 _).1,e2.trans (Blk.F6 _).2.1⟩
   rw[A7 hc] at e2;exact⟨e1,e2⟩
  ·refine r6 id ?_;rw[LJ];split
   ·exact Blk.frozen_own' _ ho
   exact ho
  ·have:=r7 id (λhm=>hid (Cy _ hm));show A1 (freezeL (freeze σ a) l) id=_;rw[this,LJ,A7 (λe=>hid (by rw[e];exact DE))]
  rcases r8 b hb with hI|⟨id,o,hid,ho,hz,hm⟩
  ·rcases hI with hI|⟨h2,h3,o,h4⟩
   ·exact .inl hI
   exact .inr ⟨a,o,DE,h3,h2,h4⟩
  refine .inr ⟨id,o,Cy _ hid,?_,?_,hm⟩
  ·rw[LJ] at ho;split at ho
   ·cases hB:A1 σ id<;>rw[hB] at ho<;>simp_all [Blk.frozen,Blk.own]
   exact ho
  rw[LJ] at hz;split at hz
  ·rw[(Blk.F6 _).2.1] at hz;exact hz
  exact hz
def QF{σ':Sto}(h:Rel w I μ σ'){v:Value}{u:AV}(hv:AL w I μ σ' v u)(hd:EH σ' u=true)(hf:∀id∈HE u,(A1 σ' id).own=false):BU w I v (Cv σ' u):=by
 cases u with
 | d x=>exact hv.Ar
 | AA=>cases hv;exact .nil none 0
 | A8 id off len=>exact hv.oslData h hd (hf id (by simp[HE]))
 | _=>simp[EH] at hd
def X7(σ:Sto)(u:AV)(h1:u.one=true):(Cv σ u).one=true:=by
 cases u<;>simp_all [Cv,AV.one,D.one,default]
def UJ{σ':Sto}(h:Rel w I μ σ'){v:Value}{u:AV}(hv:AL w I μ σ' v u)(hd:u.Db σ'=true)(hf:∀id∈u.refs,(A1 σ' id).own=false):BU w I v (u.A5 σ'):=by
 cases u with
 | agg cs=>
  cases hv with
  | agg vs _ hl hone hh=>
   refine .agg vs (cs.map (Cv σ')) Hb (λc hc=>?_) λi v x hv hx=>?_
   ·obtain⟨u,hu,rfl⟩:=C4.1 hc;exact X7 _ _ (hone u hu)
   rw[DG] at hx;cases hc:cs[i]? with
   | none=>rw[hc] at hx;cases hx
   | some c=>
    rw[hc] at hx;simp at hx;subst hx;have hm:=Dn hc;refine QF h (hh i v c hv hc) (EW.1 hd c hm) λid hid=>hf id ?_;exact HZ.2 ⟨c,hm,hid⟩
 | d x=>exact QF h hv hd hf
 | AA=>exact QF h hv hd hf
 | A8 id off len=>exact QF h hv hd hf
 | _=>simp[AV.Db,EH] at hd
def XZ{σ σ':Sto}(e:∀id,(A1 σ' id).AY=(A1 σ id).AY)(u:AV):u.Db σ'=u.Db σ:=by
 have:EH σ'=EH σ:=by
  funext u;cases u<;>simp[EH,e]
 cases u<;>simp[AV.Db,this]
def Xd{σ σ':Sto}(e:∀id,(A1 σ' id).xs=(A1 σ id).xs)(u:AV):u.A5 σ'=u.A5 σ:=by
 have:Cv σ'=Cv σ:=by
  funext u;cases u<;>simp[Cv,e]
 cases u<;>simp[AV.A5,this]
def SG{u:AV}(hd:u.Db σ=true):∀id∈u.refs,(A1 σ id).AY=true:=by
 have one:∀u:AV,EH σ u=true->∀id∈HE u,(A1 σ id).AY=true:=λu hu id hid=>by
  cases u<;>simp[HE] at hid;subst hid;exact hu
 intro id hid;cases u with
 | agg cs=>
  obtain⟨c,hc,hid⟩:=HZ.1 hid;exact one c (EW.1 hd c hc) id hid
 | A8 a b c=>exact one (.A8 a b c) hd id hid
 | _=>simp[AV.refs,HE] at hid
def U6(h:Rel w I μ σ){v:Value}{u:AV}(hv:AL w I μ σ v u)(hd:u.Db σ=true):
  ∃I',Rel w I' μ (freezeL σ u.refs)/\Ay σ.length w I μ σ w I' μ (freezeL σ u.refs)/\BU w I' v (u.A5 σ)/\(freezeL σ u.refs).length=σ.length /\
   (∀id,id∉u.refs->A1 (freezeL σ u.refs) id=A1 σ id) /\
   (∀b,I'.fr b->I.fr b\/∃id o,id∈u.refs/\(A1 σ id).own=true/\(A1 σ id).AY=true/\μ id=some (b,o)):=by
 obtain⟨I',r1,r2,r3,r4,r5,r6,r7,r8⟩:=On h u.refs;refine⟨I',r1,r2,?_,r3,r7,r8⟩;have:=UJ r1 (hv.AH r2) (by rw[XZ (λid=>(r5 id).2)];exact hd) (λid hid=>r4 id hid (SG hd id hid))
 rwa [Xd (λid=>(r5 id).1)] at this
def Oe{b o:Nat}{vs:List Value}(hp:G_ w b)(hn:o+vs.length<=DQ w b)(h1:∀v∈vs,v.oneCell'=true):
  ∃w',(storeCells ⟨b,o,none⟩ vs).run P w=.ok () w'/\Io b w w'/\∀j,w'.cell? ⟨b,j,none⟩=if o<=j/\j<o+vs.length then vs[j-o]? else w.cell? ⟨b,j,none⟩:=by
 obtain⟨c,t,hc⟩:=hp;have hsz:DQ w b=c.size:=by unfold DQ;rw[hc]
 rw[hsz] at hn;refine⟨_,run_storeCells_at P b o t vs 0 c w hc Pj h1,?_,λj=>?_⟩
 ·have hh:=setRow_heap w b c (c.toList.take (o+0)++vs++c.toList.drop (o+0+vs.length)).toArray t (0,0) hc;refine⟨rfl,rfl,rfl,A6,λb' hb=>setRow_other w b b' _ hb,?_,λ_=>⟨_,_,hh⟩⟩;rw[hsz];unfold DQ;rw[hh];simp;omega
 have hh:=setRow_heap w b c (c.toList.take (o+0)++vs++c.toList.drop (o+0+vs.length)).toArray t (0,0) hc;have e1:(w.setRow b (c.toList.take (o+0)++vs++c.toList.drop (o+0+vs.length)).toArray).cell? ⟨b,j,none⟩=(c.toList.take o++vs++c.toList.drop (o+vs.length))[j]? := by
  unfold World.cell?;rw[hh];simp
 have e2:w.cell? ⟨b,j,none⟩=c.toList[j]? := by
  unfold World.cell?;rw[hc];simp
 rw[e1,e2,MV];by_cases hj:j<o
 ·rw[A7 oo,Ec Ap,GH hj]
 have hlo:(c.toList.take o).length=o:=Ap;rw[G2 oo,hlo];by_cases hj2:j<o+vs.length
 ·rw[AD ⟨oo,hj2⟩,Ec oo]
 rw[A7 oo,G2 oo,IW];congr 1;omega
def QI{v:Value}{u:AV}(hv:AL w I μ σ v u)(hs:u.storable=true):
  ∃vs:List Value,v.cells=vs.toArray/\vs.length=u.AO/\∀j c,vs[j]? = some c->AL w I μ σ c (u.cellAt j)/\(u.cellAt j).one=true/\c.oneCell'=true:=by
 have single:∀(v:Value) (u:AV),u.one=true->u.isAgg=false->v.oneCell'=true->AL w I μ σ v u->∃vs:List Value,v.cells=vs.toArray/\vs.length=u.AO/\∀j c,vs[j]? = some c->AL w I μ σ c (u.cellAt j)/\(u.cellAt j).one=true/\c.oneCell'=true:=by
  intro v u h1 h2 h3 h4;refine⟨[v],?_,by rw[AV.ncells_of_not_agg h2];rfl,λj c hc=>?_⟩
  ·cases v<;>simp_all [Value.oneCell',Value.cells]
  cases j with
  | zero=>
   simp at hc;subst hc;rw[AV.cellAt_of_not_agg h2];exact⟨h4,h1,h3⟩
  | succ j=>simp at hc
 cases u with
 | undef=>simp[AV.storable] at hs
 | Aj _=>simp[AV.storable] at hs
 | iff _ _=>simp[AV.storable] at hs
 | BY=>simp[AV.storable] at hs
 | agg cs=>
  cases hv with
  | agg vs _ hl hone hh=>
   refine⟨vs,rfl,hl,λj c hc=>?_⟩;have hjl:j<cs.length:=by
    exact mU
   have hx:cs[j]? = some cs[j]:=BP hjl;have r:=hh j c _ hc hx;have e:(AV.agg cs).cellAt j=cs[j]:=by simp[AV.cellAt,B5,hx]
   rw[e];have h1:=hone cs[j] (FZ hjl);refine⟨r,h1,?_⟩;generalize cs[j]=q at *;cases r<;>simp_all [AV.one,Value.oneCell']
   ·rename_i h;exact h.Dv h1
   ·rename_i h;obtain⟨_,_,_,rfl⟩:=h;rfl
   ·rename_i h;obtain⟨_,_,_,_,rfl⟩:=h;rfl
   ·rename_i h;rcases h with⟨_,_,rfl⟩|⟨_,_,_,_,_,_,rfl⟩<;>rfl
   rename_i h;obtain⟨_,_,rfl⟩:=h;rfl
 | d x=>
  cases hx:x.isAgg with
  | false=>exact single v (.d x) (D.one_of_not_agg hx) hx (hv.Ar.Dv (D.one_of_not_agg hx)) hv
  | true=>
   have e:=D.DV hx;have hr:=hv.Ar;rw[e] at hr;cases hr with
   | agg vs _ hl hone hh=>
    refine⟨vs,rfl,hl,λj c hc=>?_⟩;have hjl:j<x.cells.length:=by
     exact mU
    have hy:x.cells[j]? = some x.cells[j]:=BP hjl;have r:=hh j c _ hc hy;have e2:(AV.d x).cellAt j=.d x.cells[j]:=lf;rw[e2];have h1:=hone x.cells[j] (FZ hjl);exact⟨.d _ _ r,h1,r.Dv h1⟩
 | AA=>exact single v .AA rfl rfl (by cases hv;rfl) hv
 | ptr id off=>exact single v _ rfl rfl (by cases hv;rename_i h;obtain⟨_,_,_,rfl⟩:=h;rfl) hv
 | B8 es xs i off=>exact single v _ rfl rfl (by cases hv;rfl) hv
 | Al id i off=>exact single v _ rfl rfl (by cases hv;rename_i h;obtain⟨_,_,_,_,rfl⟩:=h;rfl) hv
 | A8 id off len=>exact single v _ rfl rfl (by cases hv;rename_i h;rcases h with⟨_,_,rfl⟩|⟨_,_,_,_,_,_,rfl⟩<;>rfl) hv
 | AF id=>exact single v _ rfl rfl (by cases hv;rename_i h;obtain⟨_,_,rfl⟩:=h;rfl) hv
 | fn f caps=>exact single v _ rfl rfl (by cases hv;rfl) hv
end Go.AM


namespace Go.AM
variable {P:Program} {w:World} {I:Im} {μ:Pos} {σ:Sto}
def Rel.boxOf(h:Rel w I μ σ){id:Nat}(hb:(A1 σ id).EN=true):∃n v b base,A1 σ id=.box n v/\id<σ.length/\Br σ id/\(A1 σ id).own=true/\μ id=some (b,base)/\G_ w b/\base+n<=DQ w b/\v.AO=n /\
  ∀j,j<n->(v.cellAt j).one=true/\∃u,w.cell? ⟨b,base+j,none⟩=some u/\AL w I μ σ u (v.cellAt j):=by
 cases hB:A1 σ id with
 | box n v=>
  have ho:(A1 σ id).own=true:=ER;have hid:=E2 ho;have:=h.D6 id hid;rw[hB] at this;obtain⟨b,base,h1,_,h3,h4,h5,h6⟩:=this;exact⟨n,v,b,base,rfl,hid,Mg,rfl,h1,h3,h4,h5,h6⟩
 | _=>rw[hB] at hb;simp[Blk.EN] at hb
def Rel.arrOf(h:Rel w I μ σ){id:Nat}(hb:(A1 σ id).AY=true){i:Nat}(hi:i<(A1 σ id).xs.length):∃b base,id<σ.length/\Br σ id/\μ id=some (b,base) /\
  (∀x∈(A1 σ id).xs,x.cells.length=(A1 σ id).es)/\(∀x∈(A1 σ id).xs,x.flat) /\
  (∀(i j:Nat) (x y:D),(A1 σ id).xs[i]? = some x->x.cells[j]? = some y->∃v,w.cell? ⟨b,base+i*(A1 σ id).es+j,none⟩=some v/\BU w I v y):=by
 have hal:Br σ id:=b9;have hid:=vH hal;have hb2:=h.D6 id hid;cases hB:A1 σ id with
 | arr es xs=>
  rw[hB] at hb2 hi;rcases hb2 with⟨_,rfl⟩|⟨b,base,h1,_,_,_,h5,h6,h7⟩
  ·simp[Blk.xs] at hi
  exact⟨b,base,hid,hal,h1,h5,h6,h7⟩
 | BS es xs=>
  rw[hB] at hb2 hi;rcases hb2 with⟨_,rfl⟩|⟨b,base,h1,hs⟩
  ·simp[Blk.xs] at hi
  exact⟨b,base,hid,hal,h1,hs.size,hs.flat,hs.cell⟩
 | dead=>rw[hB] at hb;simp[Blk.AY] at hb
 | box _ _=>rw[hB] at hb;simp[Blk.AY] at hb
 | map _ _=>rw[hB] at hb;simp[Blk.AY] at hb
 | var _ _=>rw[hB] at hb;simp[Blk.AY] at hb
def Rel.varOf(h:Rel w I μ σ){id es:Nat}{cs:List AV}(hB:A1 σ id=.var es cs):id<σ.length/\Br σ id/\(A1 σ id).own=true/\0<es/\cs.length / es*es=cs.length /\
  ((μ id=none/\cs=[])\/∃b base,μ id=some (b,base)/\¬I.fr b/\G_ w b/\base+cs.length<=DQ w b/\∀(j:Nat) (c:AV),cs[j]? = some c->c.one=true/\∃u,w.cell? ⟨b,base+j,none⟩=some u/\AL w I μ σ u c):=by
 have ho:(A1 σ id).own=true:=ER;have hid:=E2 ho;have:=h.D6 id hid;rw[hB] at this;exact⟨hid,Mg,ho,this.1.1,this.1.2,this.2⟩
def Blk.Gh{B:Blk}(h:B.isVar=true):∃es cs,B=.var es cs:=by cases B<;>first|exact⟨_,_,rfl⟩|cases h
def Qen{t:TypeId}{g:Bool}{n b B k:Nat}{cs:List AV}(hk:BR P t=some g)(hs:tsz P t=some n)(hl:k+n<=cs.length)(hg:g=true\/n=1)
  (hc:∀(j:Nat) (c:AV),cs[j]? = some c->c.one=true/\∃u,w.cell? ⟨b,B+j,none⟩=some u/\AL w I μ σ u c) :
  ∃u,(loadVar t ⟨b,B+k,none⟩).run P w=.ok u w/\AL w I μ σ u (Rj cs k n g):=by
 have hat:∀j,j<n->∃u,w.cell? ⟨b,B+k+j,none⟩=some u/\AL w I μ σ u (cs.getD (k+j) .undef)/\(cs.getD (k+j) .undef).one=true:=λj hj=>by
  have h1:cs[k+j]? = some (cs[k+j]' oo):=BP _;obtain⟨h2,u,h3,h4⟩:=hc _ _ h1;rw[B5,h1];exact⟨u,by rw[G1];exact h3,h4,h2⟩
 cases g with
 | true=>
  let vs:List Value:=(List.range n).map λj=>(w.cell? ⟨b,B+k+j,none⟩).getD Go.undef
  have hlen:vs.length=n:=by simp[vs]
  have hvs:∀i u,vs[i]? = some u->i<n/\w.cell? ⟨b,B+k+i,none⟩=some u:=λi u hu=>by
   simp only[vs,DG] at hu;rcases B9 i n with hi|hi
   ·obtain⟨u',hu',_⟩:=hat i hi;simp[hi,hu'] at hu;subst hu;exact⟨hi,hu'⟩
   simp[hi] at hu
  refine⟨_,YE (P:=P) (w:=w) (t:=t) (b:=b) (o:=B+k) hk vs (by rw[hlen];exact hs) (λj u hu=>(hvs j u hu).2),?_⟩;have hcl:((cs.drop k).take n).length=n:=Ap;show AL w I μ σ _ (FV ((cs.drop k).take n));refine QM (by rw[hlen,hcl]) (λc hc'=>?_) λi v x hv hx=>?_
  ·have:=K7 (GS hc');obtain⟨j,hj⟩:=GF this;exact(hc j c hj).1
  obtain⟨hi,hv'⟩:=hvs i v hv;obtain⟨u,h1,h2,_⟩:=hat i hi;rw[hv'] at h1;simp only[BF] at h1;subst h1;rw[GH hi,IW] at hx
  rwa [B5,hx] at h2
 | false=>
  have hn:n=1:=hg.resolve_left A6;subst hn;obtain⟨u,h1,h2,_⟩:=hat 0 oo;exact⟨u,YF hk h1,h2⟩
def SK(cs:List AV)(k:Nat)(u:AV):∀n,(putCells cs k n u).length=cs.length
 | 0=>rfl
 | n+1=>by rw[putCells,BH,SK cs k u n]
def dy(cs:List AV)(k:Nat)(u:AV):∀(n j:Nat),k+n<=cs.length->(putCells cs k n u)[j]? = if k<=j/\j<k+n then some (u.cellAt (j-k)) else cs[j]?
 | 0,j,_=>by rw[A7 oo];rfl
 | n+1,j,h=>by
  rw[putCells];by_cases e:j=k+n
  ·subst e;rw[Lg (by rw[SK];omega),AD oo,EB]
  rw[IX oo,dy cs k u n j oo];by_cases h2:k<=j/\j<k+n
  ·rw[AD h2,AD oo]
  rw[A7 h2,A7 oo]
def kE{es i off n N:Nat}(hi:i<N / es)(ho:off+n<=es)(hN:N / es*es=N):i*es+off+n<=N:=by
 have:(i+1)*es<=N / es*es:=EC es hi;exact OI
def Oh{xs:List D}{i:Nat}(h:i<xs.length):xs[i]? = some (xs.getD i default):=by
 rw[B5,BP h];rfl
def Ka{xs:List D}{i:Nat}(h:i<xs.length):xs.getD i default∈xs:=Dn (Oh h)
def BU.Ig{v:Value}{x:D}(h:BU w I v (.ref x)):∃b off,v=.pointer (some ⟨b,off,none⟩)/\J1 w I b off x.cells.length [x]:=by
 cases h with
 | ref b off _ vals hI hfl hc hr=>
  refine⟨b,off,rfl,hI,λy hy=>by simp at hy;rw[hy],λy hy=>by simp at hy;rw[hy];exact hfl,λi j y z hy hz=>?_⟩;cases i with
  | succ i=>simp at hy
  | zero=>
   simp at hy;subst hy;have hj:j<x.cells.length:=by
    rcases B9 j x.cells.length with h'|h'
    ·exact h'
    rw[Bt h'] at hz;cases hz
   exact⟨vals j,by rw[MS,Gb];exact hc j hj,hr j z hz⟩
def hY(h:Rel w I μ σ){t:TypeId}{g:Bool}{n:Nat}(hk:BR P t=some g)(hs:tsz P t=some n){v:Value}{p:AV}(hv:AL w I μ σ v p)(ho:JM σ g n p):
  ∃u,(Instr.loadAt t v).run P w=.ok u w/\AL w I μ σ u (ldV σ g n p):=by
 cases p with
 | ptr id off=>
  obtain⟨hb,hp⟩:=ho;obtain⟨N,bv,b,base0,hB,hid,hal,_,hμ,_,_,h5,h6⟩:=h.boxOf hb;cases hv with
  | ptr _ _ _ _ hh=>
   obtain⟨b',base,h1,rfl⟩:=hh;have e:=h1 hal;rw[hμ] at e;simp only[BF,EO] at e;obtain⟨rfl,rfl⟩:=e;simp only[ldV,hB,Blk.Gu,Blk.F7] at hp ⊢;obtain⟨u,hu,hr⟩:=Qem (P:=P) (B:=base0) hk hs h5 (λj hj=>h6 j hj) hp;refine⟨u,?_,hr⟩;refine Tg ?_;exact hu
 | B8 es xs i off=>
  obtain⟨hi,hp⟩:=ho;cases hv with
  | B8 b o _ _ _ _ hh=>
   have hx:=Oh hi;obtain⟨u,hu,hr⟩:=XN (P:=P) (B:=o+i*es) hk hs (hh.size _ (Ka hi)) (hh.flat _ (Ka hi)) (λj y hy=>hh.cell i j _ y hx hy) hp;refine⟨u,?_,.d _ _ hr⟩;refine Tg ?_;exact hu
 | Al id i off=>
  simp only[JM,ldV] at ho ⊢;by_cases hvar:(A1 σ id).isVar=true
  ·rw[AD hvar] at ho;rw[AD hvar];obtain⟨es,cs,hB⟩:=Blk.Gh hvar;rw[hB] at ho ⊢;simp only[Blk.xs,Blk.es,Blk.cells,IY] at ho ⊢;obtain⟨hid,hal,_,_,hdiv,hcase⟩:=h.varOf hB;have hix:=kE ho.1 ho.2.1 hdiv;rcases hcase with⟨_,rfl⟩|⟨b,base,hμ,_,_,_,h7⟩
   ·simp at ho
   cases hv with
   | Al _ _ _ _ _ hh=>
    obtain⟨b',base',es',h1,rfl⟩:=hh;obtain⟨e,e2⟩:=h1 hal;rw[hμ] at e;simp only[BF,EO] at e;obtain⟨rfl,rfl⟩:=e;rw[hB] at e2;simp only[Blk.es] at e2;subst e2;obtain⟨u,hu,hr⟩:=Qen (P:=P) (t:=t) (k:=i*es+off) hk hs hix ho.2.2 h7;refine⟨u,?_,hr⟩;refine Tg ?_;rw[<-G1] at hu;exact hu
  rw[A7 hvar] at ho;rw[A7 hvar];obtain⟨hb,hi,hp⟩:=ho;obtain⟨b,base,hid,hal,hμ,h5,h6,h7⟩:=h.arrOf hb hi;cases hv with
  | Al _ _ _ _ _ hh=>
   obtain⟨b',base',es,h1,rfl⟩:=hh;obtain⟨e,e2⟩:=h1 hal;rw[hμ] at e;simp only[BF,EO] at e;obtain⟨rfl,rfl⟩:=e;subst e2;have hx:=Oh hi;obtain⟨u,hu,hr⟩:=XN (P:=P) (B:=base+i*(A1 σ id).es) hk hs (h5 _ (Ka hi)) (h6 _ (Ka hi)) (λj y hy=>h7 i j _ y hx hy) hp;refine⟨u,?_,.d _ _ hr⟩;refine Tg ?_;exact hu
 | d y=>
  cases y with
  | ref x=>
   obtain⟨b,o,rfl,hh⟩:=hv.Ar.Ig;obtain⟨u,hu,hr⟩:=XN (P:=P) (B:=o) hk hs rfl (hh.flat _ A6) (λj y hy=>by
    have:=hh.cell 0 j x y rfl hy
    rwa [MS,Gb] at this) ho
   refine⟨u,?_,.d _ _ hr⟩;refine Tg ?_;rw[Gb] at hu;exact hu
  | _=>exact ho.elim
 | _=>exact ho.elim
def Y9(cs:List AV)(j:Nat)(hj:j<cs.length):(FV cs).cellAt j=cs.getD j .undef:=by
 unfold FV;cases hd:Hk cs with
 | none=>rfl
 | some ds=>
  have e:=U_ hd;subst e;simp only[BW] at hj;simp[AV.cellAt,D.cell,D.cells,B5,BP hj]
def YA(cs:List AV):(FV cs).AO=cs.length:=by
 unfold FV;cases hd:Hk cs with
 | none=>rfl
 | some ds=>
  have e:=U_ hd;subst e;simp[AV.AO,D.cells]
def sF{v u:AV}{N off n j:Nat}(hj:j<N):(Ns v N off n u).cellAt j=if off<=j/\j<off+n then u.cellAt (j-off) else v.cellAt j:=by
 unfold Ns;split
 ·exact nE
 rw[Y9 _ _ Kt];simp[B5,hj]
def sG{v u:AV}{N off n:Nat}(hu:u.AO=n):(Ns v N off n u).AO=N:=by
 unfold Ns;split
 ·rename_i he;rw[hu];exact he.2
 rw[YA];simp
def Xz{t:TypeId}{b o n:Nat}{v:Value}{vs:List Value}{w':World}(hs:tsz P t=some n)(hc:v.cells=vs.toArray)(hl:vs.length=n)(hr:(storeCells ⟨b,o,none⟩ vs).run P w=.ok () w'):
  (Instr.storeAt t (.pointer (some ⟨b,o,none⟩)) v).run P w=.ok () w':=by
 simp only[Instr.storeAt,Instr.sureAddr,storeVar,Sem.run_bind,Sem.run_pure,Result.andThen_ok,Ju hs,hc,TG,hl];simpa only[ne_eq,Vf,CF] using hr
def Uk{v:Value}{x:D}(hv:BU w I v x):∃vs:List Value,v.cells=vs.toArray/\vs.length=x.cells.length/\∀j c,vs[j]? = some c->BU w I c (x.cell j)/\c.oneCell'=true:=by
 obtain⟨vs,h1,h2,h3⟩:=QI (AL.d (μ:=λ_=>none) (σ:=[]) v x hv) rfl;exact⟨vs,h1,h2,λj c hc=>⟨(h3 j c hc).1.Ar,(h3 j c hc).2.2⟩⟩
def Xy{x u:D}{N off n:Nat}(hu:u.cells.length=n):(x.putAt N off n u).cells.length=N:=by
 unfold D.putAt;split
 ·rename_i he;rw[hu];exact he.2
 simp[D.cells]
def dH{x u:D}{N off n j:Nat}(hj:j<N):(x.putAt N off n u).cell j=if off<=j/\j<off+n then u.cell (j-off) else x.cell j:=by
 unfold D.putAt;split
 ·exact nE
 simp[D.cell,D.cells,B5,hj]
def D.cell_of{x y:D}{j:Nat}(h:x.cells[j]? = some y):x.cell j=y:=by unfold D.cell;rw[B5,h];rfl
def D.one_cell{x:D}(h:x.flat){j:Nat}(hj:j<x.cells.length):(x.cell j).one=true:=by
 have e:x.cells[j]? = some x.cells[j]:=BP hj;rw[D.cell_of e];exact h _ (FZ hj)
def Qd5{x u:D}{N off n:Nat}(hx:x.flat)(hu:u.flat)(hxl:x.cells.length=N)(hul:u.cells.length=n):(x.putAt N off n u).flat:=by
 intro c hc;obtain⟨j,hj⟩:=GF hc;have hjl:j<N:=by
  rw[<-Xy (x:=x) (N:=N) (off:=off) hul];rcases B9 j (x.putAt N off n u).cells.length with h'|h'
  ·exact h'
  rw[Bt h'] at hj;cases hj
 rw[<-D.cell_of hj,dH hjl];split
 ·exact D.one_cell hu oo
 exact D.one_cell hx oo
def Qbl(h:Rel w I μ σ){t:TypeId}{n:Nat}(hs:tsz P t=some n){v q:Value}{u p:AV}(hv:AL w I μ σ v u)(hq:AL w I μ σ q p)(ho:Qz σ n u p):
  ∃w' I',(Instr.storeAt t q v).run P w=.ok () w'/\Rel w' I' μ (stS σ n u p)/\Ay σ.length w I μ σ w' I' μ (stS σ n u p):=by
 cases p with
 | ptr id off=>
  obtain⟨hb,hp,hst,hnc⟩:=ho;obtain⟨N,bv,b,base0,hB,hid,hal,hown,hμ,hpl,h4,h5,h6⟩:=h.boxOf hb;cases hq with
  | ptr _ _ _ _ hh=>
   obtain⟨b',base,h1,rfl⟩:=hh;have e:=h1 hal;rw[hμ] at e;simp only[BF,EO] at e;obtain⟨rfl,rfl⟩:=e;simp only[stS,hB,Blk.Gu,Blk.F7] at hp ⊢;obtain⟨vs,hc1,hc2,hc3⟩:=QI hv hst;rw[hnc] at hc2;obtain⟨w',hr,ww,hw⟩:=Oe (P:=P) (w:=w) (b:=b) (o:=base0+off) (vs:=vs) hpl oo (λc hc=>by
    obtain⟨j,hj⟩:=GF hc
    exact(hc3 j c hj).2.2)
   have k:=Ob h hown hμ ww (.box N (Ns bv N off n u)) ER ER (by rw[hB];exact AR _);refine⟨w',I,Xz hs hc1 hc2 hr,?_,k⟩;refine h.Ev hown hμ ww _ ER ER (by rw[hB];exact AR _) ⟨b,base0,hμ,(Jo h hid hown hμ).2,ww.plain hpl,by rw[ww.bsize];exact h4,sG hnc,λj hj=>?_⟩;rw[sF hj,hw (base0+j)];by_cases hin:off<=j/\j<off+n
   ·have hlt:j-off<vs.length:=oo;obtain⟨r1,r2,_⟩:=hc3 (j-off) _ (BP hlt);rw[AD hin,AD ⟨oo,oo⟩];exact nT
   rw[A7 hin,A7 oo];obtain⟨r1,u',hu',r2⟩:=h6 j hj;exact⟨r1,u',hu',r2.AH k⟩
 | Al id i off=>
  simp only[Qz,stS] at ho ⊢;by_cases hvar:(A1 σ id).isVar=true
  ·rw[AD hvar] at ho;rw[AD hvar];obtain⟨es,cs,hB⟩:=Blk.Gh hvar;rw[hB] at ho ⊢;simp only[Blk.xs,Blk.es,Blk.cells,IY] at ho ⊢;obtain⟨hi,hoff,hst,hnc⟩:=ho;obtain⟨hid,hal,hown,hes,hdiv,hcase⟩:=h.varOf hB;have hix:=kE hi hoff hdiv;rcases hcase with⟨_,rfl⟩|⟨b,base,hμ,hnI,hpl,hsz,h7⟩
   ·simp at hi
   cases hq with
   | Al _ _ _ _ _ hh=>
    obtain⟨b',base',es',h1,rfl⟩:=hh;obtain⟨e,e2⟩:=h1 hal;rw[hμ] at e;simp only[BF,EO] at e;obtain⟨rfl,rfl⟩:=e;rw[hB] at e2;simp only[Blk.es] at e2;subst e2;obtain⟨vs,hc1,hc2,hc3⟩:=QI hv hst;rw[hnc] at hc2;obtain⟨w',hr,ww,hw⟩:=Oe (P:=P) (w:=w) (b:=b) (o:=base+i*es+off) (vs:=vs) hpl oo (λc hc=>by
     obtain⟨j,hj⟩:=GF hc
     exact(hc3 j c hj).2.2)
    have hx1:((Blk.var es (putCells cs (i*es+off) n u)).xs.length)=(A1 σ id).xs.length:=by rw[hB];simp[Blk.xs,SK]
    have k:=Ob h hown hμ ww (.var es (putCells cs (i*es+off) n u)) ER ER (by rw[hx1];exact AR _);refine⟨w',I,Xz hs hc1 hc2 hr,?_,k⟩;refine h.Ev hown hμ ww _ ER ER (by rw[hx1];exact AR _) ⟨⟨hes,by rw[SK];exact hdiv⟩,.inr ⟨b,base,hμ,hnI,ww.plain hpl,by rw[ww.bsize,SK];exact hsz,λj c hj=>?_⟩⟩;rw[dy _ _ _ _ _ hix] at hj;rw[hw];by_cases hin:i*es+off<=j/\j<i*es+off+n
    ·rw[AD hin] at hj;simp only[BF] at hj;subst hj;have hlt:j-(i*es+off)<vs.length:=oo;obtain⟨r1,r2,_⟩:=hc3 (j-(i*es+off)) _ (BP hlt);rw[AD ⟨oo,oo⟩];exact nT
    rw[A7 hin] at hj;rw[A7 oo];obtain⟨r1,u',hu',r2⟩:=h7 j c hj;exact⟨r1,u',hu',r2.AH k⟩
  rw[A7 hvar] at ho;rw[A7 hvar];obtain⟨hb,hi,hp,hd,hnc,hnr⟩:=ho;obtain⟨I',r1,r2,r3,r4,r5,r6⟩:=U6 h hv hd;cases hB:A1 σ id with
  | arr es xs=>
   have hB':A1 (freezeL σ u.refs) id=.arr es xs:=by rw[r5 id hnr,hB]
   rw[hB] at hi hp;simp only[Blk.xs,Blk.es] at hi hp;have hown:(A1 (freezeL σ u.refs) id).own=true:=TW;have hid:=E2 hown;have hb2:=r1.D6 id hid;have hal:Br σ id:=Mg;rw[hB'] at hb2;rcases hb2 with⟨_,rfl⟩|⟨b,base,hμ,hnI,hpl,hsz,h5,h6,h7⟩
   ·simp at hi
   cases hq with
   | Al _ _ _ _ _ hh=>
    obtain⟨b',base',es',h1,rfl⟩:=hh;obtain⟨e,e2⟩:=h1 hal;rw[hμ] at e;simp only[BF,EO] at e;obtain⟨rfl,rfl⟩:=e;rw[hB] at e2;simp only[Blk.es] at e2;subst e2;simp only[stS,hB,Blk.es,Blk.xs];obtain⟨vs,hc1,hc2,hc3⟩:=Uk r3;have hxi:=Oh hi;have hxm:=Ka hi;have hbound:base+i*es+off+n<=base+xs.length*es:=by
     have:(i+1)*es<=xs.length*es:=EC es hi;exact OI
    have hgoal:∀y,y=u.A5 σ->y.cells.length=n->y.flat->(∀j c,vs[j]? = some c->BU w I' c (y.cell j)/\c.oneCell'=true)->vs.length=n ->
      ∃w' I'',(Instr.storeAt t (.pointer (some ⟨b,base+i*es+off,none⟩)) v).run P w=.ok () w'/\Rel w' I'' μ ((freezeL σ u.refs).set id (.arr es (xs.set i ((xs.getD i default).putAt es off n y)))) /\
       Ay σ.length w I μ σ w' I'' μ ((freezeL σ u.refs).set id (.arr es (xs.set i ((xs.getD i default).putAt es off n y)))):=by
     intro y _ hyn hyf hyc hvl;obtain⟨w',hr,ww,hw⟩:=Oe (P:=P) (w:=w) (b:=b) (o:=base+i*es+off) (vs:=vs) hpl oo (λc hc=>by
      obtain⟨j,hj⟩:=GF hc
      exact(hyc j c hj).2)
     have k:=Ob r1 hown hμ ww (.arr es (xs.set i ((xs.getD i default).putAt es off n y))) TW TW (by rw[hB'];simp[Blk.xs]);rw[r4] at k;refine⟨w',I',Xz hs hc1 hvl hr,?_,r2.trans k⟩;refine r1.Ev hown hμ ww _ TW TW (by rw[hB'];simp[Blk.xs]) (.inr ⟨b,base,hμ,hnI,ww.plain hpl,by rw[ww.bsize];simpa using hsz,λx hx=>?_,λx hx=>?_,λi' j x y' hx hy=>?_⟩)
     ·rcases MZ hx with hx|rfl
      ·exact h5 x hx
      exact Xy hyn
     ·rcases MZ hx with hx|rfl
      ·exact h6 x hx
      exact Qd5 (h6 _ hxm) hyf (h5 _ hxm) hyn
     by_cases ei:i=i'
     ·subst ei;rw[Lg hi] at hx;simp only[BF] at hx;subst hx;have hjl:j<es:=by
       rw[<-Xy (x:=xs.getD i default) (N:=es) (off:=off) hyn];rcases B9 j ((xs.getD i default).putAt es off n y).cells.length with h'|h'
       ·exact h'
       exact c8
      rw[<-D.cell_of hy,dH hjl,hw];by_cases hin:off<=j/\j<off+n
      ·have hlt:j-off<vs.length:=oo;rw[AD hin,AD ⟨oo,oo⟩];refine⟨_,l_,?_⟩;exact((hyc (j-off) _ (BP hlt)).1).AH k.Bs k.CB
      rw[A7 hin,A7 oo];have hjx:j<(xs.getD i default).cells.length:=by rw[h5 _ hxm];exact hjl
      obtain⟨v',hv',hr'⟩:=h7 i j _ _ hxi (BP hjx);rw[D.cell_of (BP hjx)];exact⟨v',hv',hr'.AH k.Bs k.CB⟩
     rw[IX ei] at hx;obtain⟨v',hv',hr'⟩:=h7 i' j x y' hx hy;refine⟨v',?_,hr'.AH k.Bs k.CB⟩;rw[hw,A7]
     ·exact hv'
     have hjl:j<es:=by
      rw[<-h5 x (Dn hx)];exact Ti
     rw[hvl];intro ⟨ha,hb'⟩;rcases Nat.lt_or_gt_of_ne ei with hlt|hgt
     ·have:(i+1)*es<=i'*es:=EC es hlt;exact OI
     have:(i'+1)*es<=i*es:=EC es hgt;rw[E8] at this;omega
    exact hgoal _ rfl hnc r3.flat hc3 (hc2.trans hnc)
  | _=>rw[hB] at hb;simp[Blk.BN] at hb
 | _=>exact ho.elim
end Go.AM


namespace Go.AM
variable {P:Program} {w:World} {I:Im}
def J9(w:World)(I:Im)(v:Value)(g:Bool)(az:List D):Prop:=
 if g=true then ∃vs:List Value,v=.agg vs.toArray/\vs.length=az.length/\∀(i:Nat) (u:Value) (x:D),vs[i]? = some u->az[i]? = some x->BU w I u x
 else ∃x,az=[x]/\BU w I v x
def Rz:∀{l:List Nat} {az bs:List D},G8 l az bs=true->az.length=l.length/\bs.length=l.length
 | [],[],[],_=>⟨rfl,rfl⟩
 | [],[],_::_,h=>RM
 | [],_::_,_,h=>RM
 | _::_,[],_,h=>RM
 | _::_,_::_,[],h=>RM
 | c::l,a::az,b::bs,h=>by
  simp only[G8,C5] at h;have:=Rz h.2;simp[this.1,this.2]
def Wh:∀{l l':List Nat} {az bs:List D},G8 (l++l') az bs=true->G8 l (az.take l.length) (bs.take l.length)=true/\G8 l' (az.drop l.length) (bs.drop l.length)=true
 | [],l',az,bs,h=>⟨by simp[G8],Dy⟩
 | c::l,l',[],_,h=>RM
 | c::l,l',_::_,[],h=>RM
 | c::l,l',a::az,b::bs,h=>by
  simp only[O7,G8,C5] at h;have ih:=Wh h.2;simp only[CT,T8,List.drop_succ_cons,G8,C5];exact⟨⟨h.1,ih.1⟩,ih.2⟩
def kM:∀{az bs az' bs':List D},az.length=bs.length->EX (az++az') (bs++bs')=(EX az bs&&EX az' bs')
 | [],[],az',bs',_=>by simp[EX]
 | [],_::_,_,_,h=>Mf
 | _::_,[],_,_,h=>Mf
 | a::az,b::bs,az',bs',h=>by
  have:=kM (az':=az') (bs':=bs') (az:=az) (bs:=bs) Dy;simp only[O7,EX,this,Bool.and_assoc]
def cu{az bs:List D}{n:Nat}(ha:n<=az.length)(hb:n<=bs.length):EX az bs=(EX (az.take n) (bs.take n)&&EX (az.drop n) (bs.drop n)):=by
 have:=kM (az':=az.drop n) (bs':=bs.drop n) (az:=az.take n) (bs:=bs.take n) (by rw[GU,GU];omega);rw[Lf,Lf] at this;exact this
def UL{vs:List Value}{az:List D}(hl:vs.length=az.length)(h:∀(i:Nat) (u:Value) (x:D),vs[i]? = some u->az[i]? = some x->BU w I u x){t:TypeId}{g:Bool}{n o:Nat}(hk:BR P t=some g)(hs:tsz P t=some n)(hn:g=false->n=1)(ho:o+n<=az.length):
  ∃u,(part t vs.toArray o).run P w=.ok u w/\J9 w I u g ((az.drop o).take n):=by
 unfold part;cases g with
 | true=>
  refine⟨.agg (vs.toArray.extract o (o+n)),by simp only[Sem.run_bind,QT hk,Result.andThen_ok,By,Ju hs,Sem.run_pure],?_⟩;unfold J9;rw[AD rfl];refine⟨(vs.drop o).take n,?_,by rw[GU,GU,Ja,Ja,hl],λi u x hu hx=>?_⟩
  ·congr 1;apply VY;simp[List.take_drop,T5]
  rw[Pa] at hu hx;split at hu
  ·rename_i hi;rw[AD hi] at hx;rw[IW] at hu hx;exact h _ _ _ hu hx
  cases hu
 | false=>
  have hn:=hn rfl;subst hn;have la:o<az.length:=oo;have lv:o<vs.length:=oo;refine⟨vs[o],by simp[QT hk,lv],?_⟩;unfold J9;rw[A7 A6];refine⟨az[o],?_,h o _ _ (BP lv) (BP la)⟩;rw[aW la];rfl
def Q3{v:Value}{az:List D}(h:J9 w I v false az):∃x,az=[x]/\BU w I v x:=by
 unfold J9 at h;rw[A7 A6] at h;exact h
def U1{v:Value}{az:List D}(h:J9 w I v true az):∃vs:List Value,v=.agg vs.toArray/\vs.length=az.length/\∀(i:Nat) (u:Value) (x:D),vs[i]? = some u->az[i]? = some x->BU w I u x:=by
 unfold J9 at h;rw[AD rfl] at h;exact h
def Zk(P:Program)(w:World)(I:Im)(d:Nat)(g:TypeId->Option (List Nat)):Prop:=
 ∀(t:TypeId) (l:List Nat),g t=some l->∃b,BR P t=some b/\(b=false->l.length=1)/\∀{v v':Value} {az bs:List D},J9 w I v b az->J9 w I v' b bs->G8 l az bs=true->∀D,d<=D->(Op.equalIn D t v v').run P w=.ok (EX az bs) w
def rX{d:Nat}{g:TypeId->Option (List Nat)}(hg:Zk P w I d g):∀{fs:List Field} {o:Nat} {l:List Nat},SR P g fs o=some l->∀{xs ys:List Value} {az bs:List D},
  (∀(i:Nat) (v:Value) (y:D),xs[i]? = some v->az[i]? = some y->BU w I v y)->(∀(i:Nat) (v:Value) (y:D),ys[i]? = some v->bs[i]? = some y->BU w I v y)->xs.length=az.length->ys.length=bs.length ->
  G8 l (az.drop o) (bs.drop o)=true->∀D,d<=D->(Op.eqFields D xs.toArray ys.toArray fs).run P w=.ok (EX (az.drop o) (bs.drop o)) w:=by
 intro fs
 induction fs with
 | nil=>
  intro o l hf xs ys az bs _ _ _ _ hc D hD;simp only[SR,BF] at hf;subst hf;have:=Rz hc;have:az.drop o=[]:=l9.1 this.1;rw[this];simp[Op.eqFields,EX]
 | cons f fs ih=>
  intro o l hf xs ys az bs hrx hry hlx hly hc D hD;simp only[SR] at hf;split at hf
  ·rename_i hcond;obtain⟨hn,hoff⟩:=hcond;split at hf
   ·rename_i l1 hl1;split at hf
    ·rename_i hsz;obtain⟨hsz,hpos⟩:=hsz;split at hf
     ·rename_i l2 hl2;simp only[BF] at hf;subst hf;obtain⟨b,hk,hb1,hsp⟩:=hg _ _ hl1;have hlen:=Rz hc;rw[Bb] at hlen;rw[Ja,Ja] at hlen;obtain⟨c1,c2⟩:=Wh hc;obtain⟨u,hu1,hu2⟩:=UL hlx hrx (t:=f.type) (o:=o) hk hsz hb1 oo;obtain⟨u',hu1',hu2'⟩:=UL hly hry (t:=f.type) (o:=o) hk hsz hb1 oo;have heq:=hsp hu2 hu2' c1 D hD;rw[Ld,Ld] at c2;have ih':=ih hl2 hrx hry hlx hly c2 D hD;rw[<-hoff] at hu1 hu1';simp only[Op.eqFields,ne_eq,hn,not_false_eq_true,By,Sem.run_bind,hu1,hu1',Result.andThen_ok,heq];rw[cu (az:=az.drop o) (bs:=bs.drop o) (n:=l1.length) RL RL,Ld,Ld];cases hbq:EX ((az.drop o).take l1.length) ((bs.drop o).take l1.length) with
      | false=>simp
      | true=>
       simp only[Hu];simpa using ih'
     cases hf
    cases hf
   cases hf
  cases hf
def cz{d:Nat}{g:TypeId->Option (List Nat)}(hg:Zk P w I d g){e:TypeId}{l:List Nat}(he:g e=some l)(hs:tsz P e=some l.length)(hpos:0<l.length){xs ys:List Value}{az bs:List D}
  (hrx:∀(i:Nat) (v:Value) (y:D),xs[i]? = some v->az[i]? = some y->BU w I v y) (hry:∀(i:Nat) (v:Value) (y:D),ys[i]? = some v->bs[i]? = some y->BU w I v y) (hlx:xs.length=az.length) (hly:ys.length=bs.length) :
  ∀(n k:Nat),G8 (List.replicate n l).flatten (az.drop (k*l.length)) (bs.drop (k*l.length))=true->∀D,d<=D->(Op.eqItems D e l.length xs.toArray ys.toArray (List.range' k n)).run P w=.ok (EX (az.drop (k*l.length)) (bs.drop (k*l.length))) w
 | 0,k,hc,D,hD=>by
  have:=Rz hc;have e1:az.drop (k*l.length)=[]:=l9.1 (by simpa using this.1);rw[e1];simp[Op.eqItems,EX]
 | n+1,k,hc,D,hD=>by
  obtain⟨b,hk,hb1,hsp⟩:=hg _ _ he;rw[List.replicate_succ,List.flatten_cons] at hc;have hlen:=Rz hc;rw[Bb,Ja,Ja] at hlen;obtain⟨c1,c2⟩:=Wh hc;obtain⟨u,hu1,hu2⟩:=UL hlx hrx (t:=e) (o:=k*l.length) hk hs hb1 oo;obtain⟨u',hu1',hu2'⟩:=UL hly hry (t:=e) (o:=k*l.length) hk hs hb1 oo;have heq:=hsp hu2 hu2' c1 D hD;have ek:k*l.length+l.length=(k+1)*l.length:=by rw[Nat.succ_mul]
  rw[Ld,Ld,ek] at c2;have ih:=cz hg he hs hpos hrx hry hlx hly n (k+1) c2 D hD;rw[List.range'_succ];simp only[Op.eqItems,Sem.run_bind,hu1,hu1',Result.andThen_ok,heq];rw[cu (az:=az.drop (k*l.length)) (bs:=bs.drop (k*l.length)) (n:=l.length) RL RL,Ld,Ld,ek];cases hbq:EX ((az.drop (k*l.length)).take l.length) ((bs.drop (k*l.length)).take l.length) with
  | false=>simp
  | true=>
   simp only[Hu];simpa using ih
def Xl:∀d:Nat,Zk P w I d (Lv P d)
 | 0=>by intro t l h;simp[Lv] at h
 | d+1=>by
  have ih:=Xl d;intro t l h;unfold Lv at h;split at h
  ·rename_i k hu;simp only[BF] at h;subst h;refine⟨false,TV,λ_=>rfl,λ{v v' az bs} h1 h2 hc m hm=>?_⟩;obtain⟨x,rfl,r1⟩:=Q3 h1;obtain⟨y,rfl,r2⟩:=Q3 h2;obtain⟨m,rfl⟩:∃m',m=m'+1:=⟨m-1,oo⟩;simp only[G8,MT] at hc;cases r1<;>cases r2<;>simp[D.IT] at hc;subst hc;simp only[EX,MT,D.HW];exact run_equalIn_int w m t _ k _ _ hu
  ·rename_i hu;simp only[BF] at h;subst h;refine⟨false,TV,λ_=>rfl,λ{v v' az bs} h1 h2 hc m hm=>?_⟩;obtain⟨x,rfl,r1⟩:=Q3 h1;obtain⟨y,rfl,r2⟩:=Q3 h2;obtain⟨m,rfl⟩:∃m',m=m'+1:=⟨m-1,oo⟩;simp only[G8,MT] at hc;cases r1<;>cases r2<;>simp[D.IT] at hc;simp only[EX,MT,D.HW];exact run_equalIn_bool' w m t _ _ hu
  ·rename_i hu;simp only[BF] at h;subst h;refine⟨false,TV,λ_=>rfl,λ{v v' az bs} h1 h2 hc m hm=>?_⟩;obtain⟨x,rfl,r1⟩:=Q3 h1;obtain⟨y,rfl,r2⟩:=Q3 h2;obtain⟨m,rfl⟩:∃m',m=m'+1:=⟨m-1,oo⟩;simp only[G8,MT] at hc;cases r1<;>cases r2<;>simp[D.IT] at hc;simp only[EX,MT,D.HW];rw[run_equalIn_string w m t _ _ hu,ByteArray.toList_eq,ByteArray.toList_eq]
  ·rename_i fs hu;split at h
   ·rename_i hst;refine⟨true,TV,(λhb=>by cases hb),λ{v v' az bs} h1 h2 hc m hm=>?_⟩;obtain⟨xs,rfl,hlx,hrx⟩:=U1 h1;obtain⟨ys,rfl,hly,hry⟩:=U1 h2;obtain⟨m,rfl⟩:∃m',m=m'+1:=⟨m-1,oo⟩;have hf:P.fieldsOf t=fs:=by unfold Program.fieldsOf;rw[hu]
    rw[run_equalIn_agg w m t _ _ (by rw[hf];exact hu) hst,hf];have:=rX ih h hrx hry hlx hly Dc m oo;exact Ll
   cases h
  ·rename_i n e hu;split at h
   ·rename_i l1 hl1;split at h
    ·rename_i hs;obtain⟨hs,hpos⟩:=hs;simp only[BF] at h;subst h;refine⟨true,TV,(λhb=>by cases hb),λ{v v' az bs} h1 h2 hc m hm=>?_⟩;obtain⟨xs,rfl,hlx,hrx⟩:=U1 h1;obtain⟨ys,rfl,hly,hry⟩:=U1 h2;obtain⟨m,rfl⟩:∃m',m=m'+1:=⟨m-1,oo⟩;obtain⟨i,hi,hi2⟩:∃i,P.info? e=some i/\i.size=l1.length:=by
      unfold tsz at hs;cases hq:P.info? e with
      | none=>rw[hq] at hs;cases hs
      | some i=>rw[hq] at hs;exact⟨i,rfl,TU⟩
     have hce:P.cellsOf e=l1.length:=by unfold Program.cellsOf;rw[hi];exact hi2
     rw[run_equalIn_array w m xs.toArray ys.toArray hu hi,hce,List.range_eq_range'];have:=cz ih hl1 hs hpos hrx hry hlx hly n 0 Dc m oo;exact Ll
    cases h
   cases h
  cases h
end Go.AM


namespace Go.AM
variable {P:Program} {w:World} {I:Im} {μ:Pos} {σ:Sto}
def Uz(op:BinOp)(t:TypeId)(x y:Operand)(a b:Value)(ha:(match a with|.agg _|.nilIface=>false|_=>true)=true):(eqGuard op t x y a b).run P w=.ok () w:=by
 unfold eqGuard;cases op<;>cases a<;>simp_all
def tQ(op:BinOp)(t:TypeId)(k k':IntKind)(a b:Int)(ho:HP op k k' b):
  ∃u,(binOp op t (.int k a) (.int k' b)).run P w=.ok u w/\BU w I u (M0 op k a b):=by
 cases op<;>simp only[HP] at ho
 case shl=>exact⟨.int k (k.wrap (a*2 ^ (min b.toNat k.bits))),by simp[binOp,Op.shift,VX.2 ho],.int _ _⟩
 case shr=>exact⟨.int k (a.fdiv (2 ^ (min b.toNat k.bits))),by simp[binOp,Op.shift,VX.2 ho],.int _ _⟩
 case quo=>obtain⟨rfl,hb⟩:=ho;exact⟨.int k (k.wrap (a.tdiv b)),by simp[binOp,Op.intDiv,hb],.int _ _⟩
 case rem=>obtain⟨rfl,hb⟩:=ho;exact⟨.int k (a.tmod b),by simp[binOp,Op.intDiv,hb],.int _ _⟩
 all_goals subst ho
 case add=>exact⟨.int k (k.wrap (a+b)),b7,.int _ _⟩
 case sub=>exact⟨.int k (k.wrap (a-b)),b7,.int _ _⟩
 case mul=>exact⟨.int k (k.wrap (a*b)),b7,.int _ _⟩
 case and=>exact⟨.int k (k.wrap ((BitVec.ofInt k.bits a) &&& (BitVec.ofInt k.bits b)).toNat),W6,.int _ _⟩
 case or=>exact⟨.int k (k.wrap ((BitVec.ofInt k.bits a) ||| (BitVec.ofInt k.bits b)).toNat),W6,.int _ _⟩
 case xor=>exact⟨.int k (k.wrap ((BitVec.ofInt k.bits a) ^^^ (BitVec.ofInt k.bits b)).toNat),W6,.int _ _⟩
 case andNot=>exact⟨.int k (k.wrap ((BitVec.ofInt k.bits a) &&& ~~~(BitVec.ofInt k.bits b)).toNat),W6,.int _ _⟩
 case eql=>exact⟨.bool (a==b),RK,.bool _⟩
 case neq=>exact⟨.bool (a !=b),RK,.bool _⟩
 case lss=>exact⟨.bool (decide (a<b)),RK,.bool _⟩
 case leq=>exact⟨.bool (decide (a<=b)),RK,.bool _⟩
 case gtr=>exact⟨.bool (decide (a>b)),RK,.bool _⟩
 case geq=>exact⟨.bool (decide (a>=b)),RK,.bool _⟩
def Qg1(s:List UInt8):(⟨s.toArray⟩:ByteArray).toList=s:=by
 rw[ByteArray.toList_eq]
def ui(op:BinOp)(t:TypeId)(a b:List UInt8)(ho:NF op a b):
  ∃u,(binOp op t (.string ⟨a.toArray⟩) (.string ⟨b.toArray⟩)).run P w=.ok u w/\BU w I u (OT op a b):=by
 have e:binOp op t (.string ⟨a.toArray⟩) (.string ⟨b.toArray⟩)=Op.stringOp op ⟨a.toArray⟩ ⟨b.toArray⟩:=by cases op<;>rfl
 rw[e];cases op<;>simp only[NF] at ho
 case add=>
  have hs:¬(((⟨a.toArray⟩:ByteArray).size+(⟨b.toArray⟩:ByteArray).size:Nat):Int)>IntKind.i64.max:=by
   have:IntKind.i64.max=9223372036854775807:=D7;rw[this];show ¬(((a.toArray.size+b.toArray.size:Nat):Int))>_;simp only[TG];omega
  refine⟨.string (⟨a.toArray⟩++⟨b.toArray⟩),by simp only[Op.stringOp,A7 hs,Sem.run_pure],?_⟩;have e2:((⟨a.toArray⟩:ByteArray)++⟨b.toArray⟩)=⟨(a++b).toArray⟩:=by
   apply ByteArray.ext;simp[ByteArray.data_append]
  rw[e2];exact .str _
 all_goals first
  | exact ho.elim
  | exact⟨.bool _,by simp only[Op.stringOp,Sem.run_pure,Qg1],.bool _⟩
def rb{op:BinOp}{t:TypeId}{x y:Operand}{a b:Value}{u v:AV}(ha:AL w I μ σ a u)(hb:AL w I μ σ b v)(ho:iM P t op u v):
  ∃z,(do eqGuard op t x y a b;binOp op t a b:Sem Value).run P w=.ok z w/\AL w I μ σ z (Zt op u v):=by
 cases u with
 | d p=>
  cases v with
  | d q=>
   have h1:=ha.Ar;have h2:=hb.Ar;have fin:(∃z,(binOp op t a b).run P w=.ok z w/\BU w I z (FQ op p q))->(eqGuard op t x y a b).run P w=.ok () w ->
     ∃z,(do eqGuard op t x y a b;binOp op t a b:Sem Value).run P w=.ok z w/\AL w I μ σ z (Zt op (.d p) (.d q)):=by
    rintro⟨z,hz,hr⟩ hg;exact⟨z,by simp only[Sem.run_bind,hg,Result.andThen_ok];exact hz,.d _ _ hr⟩
   cases h1 with
   | int k n=>
    cases h2 with
    | int k' n'=>exact fin (tQ op t k k' n n' ho) (Uz op t x y _ _ rfl)
    | _=>exact ho.elim
   | str s=>
    cases h2 with
    | str s'=>exact fin (ui op t s s' ho) (Uz op t x y _ _ rfl)
    | _=>exact ho.elim
   | bool c=>
    cases h2 with
    | bool c'=>
     obtain⟨h3,h4⟩:=ho;refine fin ?_ (Uz op t x y _ _ rfl);cases op<;>simp only at h3
     ·exact⟨.bool (c==c'),lZ,.bool _⟩
     exact⟨.bool (!(c==c')),lZ,.bool _⟩
    | _=>exact ho.elim
   | agg vs cs hl _ hh=>
    cases h2 with
    | agg vs' cs' hl' _ hh'=>
     obtain⟨h3,h4⟩:=ho;cases ht:LV P t with
     | none=>rw[ht] at h4;exact h4.elim
     | some l=>
      rw[ht] at h4;unfold LV at ht;split at ht
      ·rename_i hc;obtain⟨b,hk,_,hsp⟩:=Xl (P:=P) (w:=w) (I:=I) 6 t l ht;rw[hc.1] at hk;simp only[BF] at hk;subst hk;have e1:(Op.equalIn 10000 t (.agg vs.toArray) (.agg vs'.toArray)).run P w=.ok (EX cs cs') w:=
        hsp (by unfold J9;rw[AD rfl];exact⟨vs,rfl,hl,hh⟩) (by unfold J9;rw[AD rfl];exact⟨vs',rfl,hl',hh'⟩) h4 10000 oo
       refine fin ?_ (run_eqGuard_agg w op t x y _ _ hc.2);cases op<;>simp only at h3
       ·exact⟨.bool (EX cs cs'),by rw[run_eql_struct,e1];rfl,.bool _⟩
       exact⟨.bool (!(EX cs cs')),by rw[run_neq_struct,e1];rfl,.bool _⟩
      cases ht
    | _=>exact ho.elim
   | _=>cases q<;>exact ho.elim
  | _=>exact ho.elim
 | _=>exact ho.elim
def XR{op:BinOp}{t:TypeId}{x y:Operand}{a b:Value}{u:AV}{c:Bool}(h:op=.eql\/op=.neq)(hg:(match a with|.agg _|.nilIface=>false|_=>true)=true)
  (hb:binOp .eql t a b=(do pure (.bool (<-Op.equal t a b)):Sem Value)) (hb2:binOp .neq t a b=(do pure (.bool (!(<-Op.equal t a b))):Sem Value))
  (he:(Op.equal t a b).run P w=.ok c w) (hu:Fk u=.d (.bool c)\/Fk u=.BY) :
  ∃z,(do eqGuard op t x y a b;binOp op t a b:Sem Value).run P w=.ok z w/\AL w I μ σ z (LD op (Fk u)):=by
 have hgd:=Uz (P:=P) (w:=w) op t x y a b hg;rcases h with rfl|rfl
 ·refine⟨.bool c,by simp only[Sem.run_bind,hgd,Result.andThen_ok,hb,he,Sem.run_pure],?_⟩;rcases hu with hu|hu<;>rw[hu]
  ·exact .d _ _ (.bool _)
  exact .BY _
 refine⟨.bool (!c),by simp only[Sem.run_bind,hgd,Result.andThen_ok,hb2,he,Sem.run_pure],?_⟩;rcases hu with hu|hu<;>rw[hu]
 ·exact .d _ _ (.bool _)
 exact .BY _
def Qgy{t:TypeId}(h:(B_ P t).isSome=true):∃e,P.underlying t=some (.slice e):=by
 unfold B_ at h;split at h
 ·exact⟨_,by assumption⟩
 cases h
def uu{t:TypeId}(h:Ko P t=true):∃e,P.underlying t=some (.pointer e):=by
 unfold Ko at h;split at h
 ·exact⟨_,by assumption⟩
 cases h
def ur{t:TypeId}(h:(Co P t).isSome=true):∃k e,P.underlying t=some (.map k e):=by
 unfold Co at h;split at h
 ·exact⟨_,_,by assumption⟩
 cases h
def rA{t e:TypeId}(h:P.underlying t=some (.slice e))(p:Option Addr)(n c:Nat)(d:Nat):(Op.equalIn (d+1) t (.slice p n c) (.slice none 0 0)).run P w=.ok p.isNone w:=by
 cases p<;>simp[Op.equalIn,run_underlying h]
def qo{t e:TypeId}(h:P.underlying t=some (.slice e))(p:Option Addr)(n c:Nat):(Op.equal t (.slice p n c) (.slice none 0 0)).run P w=.ok p.isNone w:=rA h p n c 9999
def qn{t e:TypeId}(h:P.underlying t=some (.pointer e))(p:Option Addr)(d:Nat):(Op.equalIn (d+1) t (.pointer p) (.pointer none)).run P w=.ok p.isNone w:=by
 cases p<;>simp[Op.equalIn,run_underlying h]
def qY{t e:TypeId}(h:P.underlying t=some (.pointer e))(p:Option Addr):(Op.equal t (.pointer p) (.pointer none)).run P w=.ok p.isNone w:=qn h p 9999
def qm{t k e:TypeId}(h:P.underlying t=some (.map k e))(p:Option Nat)(d:Nat):(Op.equalIn (d+1) t (.map p) (.map none)).run P w=.ok p.isNone w:=by
 cases p<;>simp[Op.equalIn,run_underlying h]
def qX{t k e:TypeId}(h:P.underlying t=some (.map k e))(p:Option Nat):(Op.equal t (.map p) (.map none)).run P w=.ok p.isNone w:=qm h p 9999
def Q9f(xs:List D):Fk (.d (.sl xs))=.d (.bool false)\/Fk (.d (.sl xs))=.BY:=by cases xs<;>simp[Fk]
def Q46(i o n:Nat):Fk (.A8 i o n)=.d (.bool false)\/Fk (.A8 i o n)=.BY:=by cases n<;>simp[Fk]
def wX{op:BinOp}{t:TypeId}{x y:Operand}{a b:Value}{u v:AV}(ha:AL w I μ σ a u)(hb:AL w I μ σ b v)(ho:ku P t op u v):
  ∃z,(do eqGuard op t x y a b;binOp op t a b:Sem Value).run P w=.ok z w/\AL w I μ σ z (LD op (Fk u)):=by
 obtain⟨h,ho⟩:=ho;have sl:∀(p:Option Addr) (n c:Nat),a=.slice p n c->b=.slice none 0 0->(B_ P t).isSome=true->(Fk u=.d (.bool p.isNone)\/Fk u=.BY) ->
   ∃z,(do eqGuard op t x y a b;binOp op t a b:Sem Value).run P w=.ok z w/\AL w I μ σ z (LD op (Fk u)):=by
  intro p n c e1 e2 ht hu;subst e1;subst e2;obtain⟨e,ht⟩:=Qgy ht;exact XR h rfl rfl rfl (qo ht p n c) hu
 have pt:∀(p:Option Addr),a=.pointer p->b=.pointer none->Ko P t=true->Fk u=.d (.bool p.isNone) ->
   ∃z,(do eqGuard op t x y a b;binOp op t a b:Sem Value).run P w=.ok z w/\AL w I μ σ z (LD op (Fk u)):=by
  intro p e1 e2 ht hu;subst e1;subst e2;obtain⟨e,ht⟩:=uu ht;exact XR h rfl rfl rfl (qY ht p) (.inl hu)
 have mp:∀(p:Option Nat),a=.map p->b=.map none->(Co P t).isSome=true->Fk u=.d (.bool p.isNone) ->
   ∃z,(do eqGuard op t x y a b;binOp op t a b:Sem Value).run P w=.ok z w/\AL w I μ σ z (LD op (Fk u)):=by
  intro p e1 e2 ht hu;subst e1;subst e2;obtain⟨k,e,ht⟩:=ur ht;exact XR h rfl rfl rfl (qX ht p) (.inl hu)
 split at ho
 ·have e2:b=.slice none 0 0:=by cases hb;rfl
  have e1:a=.slice none 0 0:=by cases ha;rfl
  exact sl none 0 0 e1 e2 ho (.inl rfl)
 ·have e2:b=.slice none 0 0:=by cases hb;rfl
  cases ha.Ar with
  | nil p c=>exact sl p 0 c rfl e2 ho (.inr rfl)
  | sl b' off es cap _ vals=>exact sl _ _ _ rfl e2 ho (Q9f _)
 ·have e2:b=.slice none 0 0:=by cases hb;rfl
  cases ha with
  | A8 _ id off len hid hh=>
   rcases hh with⟨rfl,p,rfl⟩|⟨b',base,es,cap,_,_,rfl⟩
   ·exact sl p 0 0 rfl e2 ho (.inr rfl)
   exact sl _ _ _ rfl e2 ho (Q46 _ _ _)
 ·have e2:b=.pointer none:=RJ;cases ha with|ptr _ id off hid hh=>obtain⟨_,_,_,rfl⟩:=hh;exact pt _ rfl e2 ho rfl
 ·have e2:b=.pointer none:=RJ;cases ha with|B8=>exact pt _ rfl e2 ho rfl
 ·have e2:b=.pointer none:=RJ;cases ha with|Al _ id i off hid hh=>obtain⟨_,_,_,_,rfl⟩:=hh;exact pt _ rfl e2 ho rfl
 ·have e2:b=.pointer none:=RJ;have e1:a=.pointer none:=by cases ha.Ar;rfl
  exact pt none e1 e2 ho rfl
 ·have e2:b=.map none:=RJ;cases ha with|AF _ id hid hh=>obtain⟨_,_,rfl⟩:=hh;exact mp _ rfl e2 ho rfl
 ·have e2:b=.map none:=RJ;have e1:a=.map none:=by cases ha.Ar;rfl
  exact mp none e1 e2 ho rfl
 exact ho.elim
def Qf0{op:BinOp}{t:TypeId}{x y:Operand}{a b:Value}{u v:AV}(ha:AL w I μ σ a u)(hb:AL w I μ σ b v)(ho:Jk P t op u v):
  ∃z,(do eqGuard op t x y a b;binOp op t a b:Sem Value).run P w=.ok z w/\AL w I μ σ z (Ki op u v):=by
 unfold Jk at ho;unfold Ki;by_cases h:v.IQ=true
 ·rw[AD h] at ho ⊢;exact wX ha hb ho
 rw[A7 h] at ho ⊢;exact rb ha hb ho
def Qgw{op:UnOp}{a:Value}{u:AV}(ha:AL w I μ σ a u)(ho:PA op u):∃z,(Op.unary op a).run P w=.ok z w/\AL w I μ σ z (unV op u):=by
 cases u with
 | d p=>
  have h1:=ha.Ar;cases h1 with
  | int k n=>
   cases op<;>simp only[PA] at ho
   ·exact⟨.int k (k.wrap (0-n)),by simp[Op.unary,Op.intArith],.d _ _ (.int _ _)⟩
   exact⟨.int k (k.wrap ((BitVec.ofInt k.bits (if k.signed then -1 else k.max)) ^^^ (BitVec.ofInt k.bits n)).toNat),by simp only[Op.unary,Op.intBits,Sem.run_pure],.d _ _ (.int _ _)⟩
  | bool b=>
   cases op<;>simp only[PA] at ho;exact⟨.bool (!b),rfl,.d _ _ (.bool _)⟩
  | _=>exact ho.elim
 | _=>exact ho.elim
end Go.AM


namespace Go.AM
variable {P:Program} {w:World} {I:Im} {μ:Pos} {σ:Sto}
def cU{v:Value}{p:AV}(hv:AL w I μ σ v p)(hp:p.Di=true)(n:Nat):∃b o,v=.pointer (some ⟨b,o,none⟩)/\AL w I μ σ (.pointer (some ⟨b,o+n,none⟩)) (p.shift n):=by
 cases p with
 | ptr id off=>
  cases hv with
  | ptr _ _ _ hid hh=>
   obtain⟨b,base,h1,rfl⟩:=hh;exact⟨b,_,rfl,.ptr _ _ _ hid ⟨b,base,h1,by rw[G1]⟩⟩
 | B8 es xs i off=>
  cases hv with
  | B8 b o _ _ _ _ hh=>exact⟨b,_,rfl,by rw[G1];exact .B8 b o es xs i (off+n) hh⟩
 | Al id i off=>
  cases hv with
  | Al _ _ _ _ hid hh=>
   obtain⟨b,base,es,h1,rfl⟩:=hh;exact⟨b,_,rfl,.Al _ _ _ _ hid ⟨b,base,es,h1,by rw[G1]⟩⟩
 | d y=>
  cases y with
  | ref x=>
   obtain⟨b,o,rfl,hh⟩:=hv.Ar.Ig;exact⟨b,_,rfl,by have:=AL.B8 (w:=w) (I:=I) (μ:=μ) (σ:=σ) b o x.cells.length [x] 0 n hh;rwa [MS,Gb] at this⟩
  | _=>simp[AV.Di] at hp
 | _=>simp[AV.Di] at hp
def cd{s:TypeId}{f o n:Nat}{g:Bool}(h:Az P s f=some (o,n,g)):∃fs x,P.underlying s=some (.struct fs)/\fs[f]? = some x/\x.offset=o/\tsz P x.type=some n/\BR P x.type=some g:=by
 unfold Az at h;split at h
 ·rename_i fs hu;split at h
  ·rename_i x hx;split at h
   ·rename_i n' g' h1 h2;simp only[BF,EO] at h;obtain⟨rfl,rfl,rfl⟩:=h;exact⟨fs,x,hu,hx,rfl,h1,h2⟩
   cases h
  cases h
 cases h
def qj{s:TypeId}{f o n:Nat}{g:Bool}(h:Az P s f=some (o,n,g))(hn:n≠0){v:Value}{p:AV}(hv:AL w I μ σ v p)(hp:p.Di=true):
  ∃u,(Instr.fieldAt s v f).run P w=.ok u w/\AL w I μ σ u (p.shift o):=by
 obtain⟨fs,x,h1,h2,rfl,h4,_⟩:=cd h;obtain⟨b,o',rfl,hr⟩:=cU hv hp x.offset;refine⟨_,?_,hr⟩;simp only[Instr.fieldAt,Instr.sureAddr,fieldPlace,Sem.run_bind,run_underlying h1,Result.andThen_ok,h2,Sem.run_pure,Ju h4,A7 hn,KT]
def Qfh{s:TypeId}{f o n N:Nat}{g:Bool}(h:Az P s f=some (o,n,g)){v:Value}{u:AV}(hv:AL w I μ σ v u)(ha:u.isAgg=true)(hN:u.AO=N)(hb:o+n<=N)(hg:g=true\/n=1):
  ∃z,(Instr.field s v f).run P w=.ok z w/\AL w I μ σ z (if g=true then u.HC o n else u.cellAt o):=by
 obtain⟨fs,x,h1,h2,rfl,h4,h5⟩:=cd h;have hs:u.storable=true:=by cases u<;>simp_all [AV.isAgg,AV.storable]
 obtain⟨vs,hc1,hc2,hc3⟩:=QI hv hs;rw[hN] at hc2;have hvs:v=.agg vs.toArray:=by
  cases u with
  | agg cs=>cases hv;rename_i vs' _ _ _;simp only[Value.cells] at hc1;rw[hc1]
  | d x=>
   have:=hv.Ar;rw[D.DV ha] at this;cases this;simp only[Value.cells] at hc1;rw[hc1]
  | _=>simp[AV.isAgg] at ha
 subst hvs;cases g with
 | false=>
  have hn:n=1:=by simpa using hg
  subst hn;have hl:x.offset<vs.length:=oo;refine⟨vs[x.offset],?_,?_⟩
  ·simp only[Instr.field,asAgg,Sem.run_bind,run_underlying h1,Result.andThen_ok,h2,Sem.run_pure,part,QT h5];simp[hl]
  simpa using(hc3 x.offset _ (BP hl)).1
 | true=>
  refine⟨.agg ((vs.drop x.offset).take n).toArray,?_,?_⟩
  ·simp only[Instr.field,asAgg,Sem.run_bind,run_underlying h1,Result.andThen_ok,h2,Sem.run_pure,part,QT h5,By,Ju h4];congr 3;simp
  simp only[By];have rep:∀i c,((vs.drop x.offset).take n)[i]? = some c->i<n/\AL w I μ σ c (u.cellAt (x.offset+i))/\(u.cellAt (x.offset+i)).one=true:=λi c hc=>by
   rcases B9 i n with hi|hi
   ·rw[GH hi,IW] at hc;exact⟨hi,(hc3 _ c hc).1,(hc3 _ c hc).2.1⟩
   rw[Bt Ap] at hc;cases hc
  have hlen:((vs.drop x.offset).take n).length=n:=Ap;cases u with
  | d y=>
   have hyl:y.cells.length=N:=hN;refine .d _ _ (.agg _ _ Ap (λc hc=>hv.Ar.flat c (K7 (GS hc))) λi c z hc hz=>?_);obtain⟨hi,r,_⟩:=rep i c hc;rw[GH hi,IW] at hz;have:=r.Ar
   rwa [D.cell_of hz] at this
  | agg cs=>
   have hyl:cs.length=N:=hN;refine QM Ap (λc hc=>?_) λi c z hc hz=>?_
   ·cases hv with
    | agg _ _ _ hone _=>exact hone c (K7 (GS hc))
   obtain⟨hi,r,_⟩:=rep i c hc;rw[GH hi,IW] at hz;simpa[AV.cellAt,B5,hz] using r
  | _=>simp[AV.isAgg] at ha
def dX{t:TypeId}{es:Nat}(h:Cn P t=some (none,es)):∃e,P.underlying t=some (.slice e)/\tsz P e=some es:=by
 unfold Cn at h;split at h
 ·rename_i e hu;cases hs:tsz P e with
  | none=>rw[hs] at h;cases h
  | some n=>rw[hs] at h;simp at h;subst h;exact⟨e,hu,hs⟩
 ·rename_i k e hu;cases hs:tsz P e with
  | none=>rw[hs] at h;cases h
  | some n=>rw[hs] at h;simp at h
 cases h
def Qbf{t:TypeId}{k es:Nat}(h:Cn P t=some (some k,es)):∃e,P.underlying t=some (.array k e)/\tsz P e=some es:=by
 unfold Cn at h;split at h
 ·rename_i e hu;cases hs:tsz P e with
  | none=>rw[hs] at h;cases h
  | some n=>rw[hs] at h;simp at h
 ·rename_i k' e hu;cases hs:tsz P e with
  | none=>rw[hs] at h;cases h
  | some n=>rw[hs] at h;simp at h;obtain⟨rfl,rfl⟩:=h;exact⟨e,hu,hs⟩
 cases h
def YT{v:Value}{u:AV}(hv:AL w I μ σ v u)(hi:u.Au=true):∃k,v=.int k u.num:=by
 cases u with
 | d x=>
  have:=hv.Ar;cases this<;>simp_all [AV.Au,AV.num]
 | _=>simp[AV.Au] at hi
def vh{t:TypeId}{es:Nat}(ht:Cn P t=some (none,es)){v iv:Value}{u i:AV}(hv:AL w I μ σ v u)(hi:AL w I μ σ iv i)(hint:i.Au=true)(ho:Na σ es i.num u):
  ∃z,(Instr.indexAt t v iv).run P w=.ok z w/\AL w I μ σ z (Sq es i.num u):=by
 obtain⟨e,h1,h2⟩:=dX ht;obtain⟨k,rfl⟩:=YT hi hint;generalize i.num=n at *;cases u with
 | d x=>
  cases x with
  | sl xs=>
   obtain⟨p1,p2,p3⟩:=ho;cases hv.Ar with
   | nil a cap=>simp at p2;omega
   | sl b off es' cap _ vals hI hcap hes hfl hc hr=>
    have hlt:n.toNat<xs.length:=oo;have hes':es'=es:=by rw[<-hes _ (Ka hlt)];exact p3
    subst hes';refine⟨.pointer (some ⟨b,off+n.toNat*es'+0,none⟩),?_,.B8 b off es' xs n.toNat 0 ⟨hI,hes,hfl,λi j x y hx hy=>?_⟩⟩
    ·simp only[Instr.indexAt,asIntOf,Sem.run_bind,Sem.run_pure,Result.andThen_ok,run_underlying h1];simp only[p1,p2,R1,By,Sem.run_bind,Ju h2,Result.andThen_ok,Sem.run_pure,KT,Gb]
    have hil:i<xs.length:=by
     exact mV
    have hjl:j<es':=by
     rw[<-hes x (Dn hx)];exact Ti
    exact⟨vals i j,hc i j hil hjl,hr i j x y hx hy⟩
  | _=>exact ho.elim
 | A8 id off len=>
  obtain⟨p1,p2,p3,p4⟩:=ho;have hal:Br σ id:=lY;cases hv with
  | A8 _ _ _ _ hid hh=>
   rcases hh with⟨rfl,_⟩|⟨b,base,es',cap,q1,q2,rfl⟩
   ·simp at p2;omega
   obtain⟨r1,r2,r3,r4,r5⟩:=q1 hal;rw[p4] at r3;subst r3;refine⟨.pointer (some ⟨b,base+off*es+n.toNat*es,none⟩),?_,.Al _ _ _ _ hid ⟨b,base,es,λ_=>⟨r1,p4⟩,?_⟩⟩
   ·simp only[Instr.indexAt,asIntOf,Sem.run_bind,Sem.run_pure,Result.andThen_ok,run_underlying h1];simp only[p1,p2,R1,By,Sem.run_bind,Ju h2,Result.andThen_ok,Sem.run_pure,KT]
   rw[E8,Gb,G1]
 | _=>exact ho.elim
def xq{t:TypeId}{k es:Nat}(ht:Cn P t=some (some k,es)){v iv:Value}{p i:AV}(hv:AL w I μ σ v p)(hi:AL w I μ σ iv i)(hint:i.Au=true)(ho:ZF k i.num p):
  ∃z,(Instr.indexAt t v iv).run P w=.ok z w/\AL w I μ σ z (p.shift (i.num.toNat*es)):=by
 obtain⟨e,h1,h2⟩:=Qbf ht;obtain⟨kk,rfl⟩:=YT hi hint;obtain⟨p1,p2,p3,p4⟩:=ho;obtain⟨b,o,rfl,hr⟩:=cU hv p1 (i.num.toNat*es);refine⟨_,?_,hr⟩;simp only[Instr.indexAt,asIntOf,Instr.sureAddr,Sem.run_bind,Sem.run_pure,Result.andThen_ok,run_underlying h1];simp only[p2,p3,R1,By,Sem.run_bind,Ju h2,Result.andThen_ok,Sem.run_pure,KT]
def Hj{t e:TypeId}(h:B_ P t=some e):P.underlying t=some (.slice e):=by
 unfold B_ at h;split at h
 ·rename_i e' hu;simp at h;subst h;exact hu
 cases h
def Xe{t:TypeId}(h:LX P t=true):P.underlying t=some .string:=by
 unfold LX at h;split at h
 ·assumption
 cases h
def Qfa{t:TypeId}(ht:LX P t=true){v iv:Value}{i:AV}{s:List UInt8}(hv:AL w I μ σ v (.d (.str s)))(hi:AL w I μ σ iv i)(hint:i.Au=true)(h0:0<=i.num)(h1:i.num<s.length):
  ∃z,(Instr.index t v iv).run P w=.ok z w/\AL w I μ σ z (.d (.int .u8 (s.getD i.num.toNat 0).toNat)):=by
 obtain⟨k,rfl⟩:=YT hi hint;cases hv.Ar;have hu:=Xe ht;have hlt:i.num.toNat<s.length:=oo;refine⟨_,?_,.d _ _ (.int _ _)⟩;simp only[Instr.index,asIntOf,Sem.run_bind,Sem.run_pure,Result.andThen_ok,run_underlying hu,h0,By];have:(⟨s.toArray⟩:ByteArray)[i.num.toNat]? = some (s.getD i.num.toNat 0):=by
  show(if h:i.num.toNat<(⟨s.toArray⟩:ByteArray).size then some ((⟨s.toArray⟩:ByteArray)[i.num.toNat]) else none)=_;have hsz:(⟨s.toArray⟩:ByteArray).size=s.length:=by simp[ByteArray.size]
  rw[JR (by rw[hsz];exact hlt)];congr 1;rw[B5,BP hlt];rfl
 rw[this];rfl
end Go.AM


namespace Go.AM
variable {P:Program} {w:World} {I:Im} {μ:Pos} {σ:Sto}
def wQ{t ty:TypeId}{v:Value}{u:AV}(hv:AL w I μ σ v u)(ho:u.DU P t=true):(Builtin.len_ #[t] ty #[v]).run P w=.ok (.int .i64 u.len) w:=by
 have slice:∀{a:Option Addr} {n c:Nat},(B_ P t).isSome=true->(Builtin.len_ #[t] ty #[.slice a n c]).run P w=.ok (.int .i64 n) w:=λ{a n c} ht=>by
  obtain⟨el,he⟩:=Fa.1 ht;simp[Builtin.len_,run_underlying (Hj he),goInt]
 cases u with
 | d x=>
  cases x with
  | sl xs=>
   cases hv.Ar with
   | nil a cap=>exact slice ho
   | sl b off es cap _ vals _ _ _ _ _ _=>exact slice ho
  | str s=>
   cases hv.Ar;have hu:=Xe (show LX P t=true from ho);have hsz:(⟨s.toArray⟩:ByteArray).size=s.length:=by simp[ByteArray.size]
   simp[Builtin.len_,run_underlying hu,goInt,AV.len,hsz]
  | _=>simp[AV.DU] at ho
 | AA=>cases hv;exact slice ho
 | A8 id off len=>
  cases hv with
  | A8 _ _ _ _ hid hh=>
   rcases hh with⟨rfl,a,rfl⟩|⟨b,base,es,cap,_,_,rfl⟩
   ·exact slice ho
   exact slice ho
 | _=>simp[AV.DU] at ho
def QY{x:Value}{k:IntKind}{i:Int}{y:Nat}{c:BoundsCode}(hx:x=.int k i)(h0:0<=i)(h1:i<=y):(Instr.sliceBound x y c).run P w=.ok i.toNat w:=by
 subst hx;simp[Instr.sliceBound,asIntOf,h0,h1]
def ez(isS:Bool){len cap:Nat}{lo hi:Option Value}{l h:Int}(hl:(lo=none/\l=0)\/∃k,lo=some (.int k l))(hh:(hi=none/\h=len)\/∃k,hi=some (.int k h))(h0:0<=l)(h1:l<=h)(h2:h<=cap):
  (Instr.sliceBounds isS len cap lo hi none).run P w=.ok (l.toNat,h.toNat,cap) w:=by
 unfold Instr.sliceBounds;have hh':h=((h.toNat:Nat):Int):=oo;rcases hl with⟨rfl,rfl⟩|⟨k,rfl⟩<;>rcases hh with⟨rfl,rfl⟩|⟨k',rfl⟩
 ·simp
 ·simp[QY (P:=P) (w:=w) (x:=.int k' h) rfl oo h2]
 ·simp[QY (P:=P) (w:=w) (x:=.int k l) (y:=len) rfl h0 oo]
 simp only[Sem.run_bind,Sem.run_pure,Result.andThen_ok,QY (P:=P) (w:=w) (x:=.int k' h) rfl oo h2,TI,Cx,CF];rw[QY (P:=P) (w:=w) (x:=.int k l) (y:=h.toNat) rfl h0 oo];simp
def Qbq{t:TypeId}{v:Value}{lo hi:Option Value}{l h:Int}{u:AV}(hv:AL w I μ σ v u)(hl:(lo=none/\l=0)\/∃k,lo=some (.int k l))(hh:(hi=none/\h=u.len)\/∃k,hi=some (.int k h))(ho:LP P t σ l h u):
  ∃z,(Instr.sliceAt t v lo hi none).run P w=.ok z w/\AL w I μ σ z (slV l h u):=by
 have isSlice:∀{e:TypeId},P.underlying t=some (.slice e)->(Instr.sliceAt t v lo hi none).run P w=(Instr.slice t v lo hi none).run P w:=λ{e} hu=>ay;have go:∀{a:Option Addr} {len cap n:Nat} {e:TypeId},v=.slice a len cap->P.underlying t=some (.slice e)->tsz P e=some n->((hi=none/\h=len)\/∃k,hi=some (.int k h))->0<=l->l<=h->h<=cap ->
   (Instr.sliceAt t v lo hi none).run P w=.ok (.slice (if cap=l.toNat then a else a.map (·.add (l.toNat*n))) (h.toNat-l.toNat) (cap-l.toNat)) w:=by
  intro a len cap n e hv hu hs hh' h0 h1 h2;rw[isSlice hu];subst hv;simp only[Instr.slice,Sem.run_bind,run_underlying hu,Result.andThen_ok,ez (P:=P) (w:=w) true hl hh' h0 h1 h2,Ju hs,Sem.run_pure]
 cases u with
 | d x=>
  cases x with
  | str s=>
   obtain⟨h3,h0,h1,h2⟩:=ho;have hu:=Xe h3;cases hv.Ar;have hsz:(⟨s.toArray⟩:ByteArray).size=s.length:=by simp[ByteArray.size]
   refine⟨.string ((⟨s.toArray⟩:ByteArray).extract l.toNat h.toNat),?_,?_⟩
   ·have e1:(Instr.sliceAt t (.string ⟨s.toArray⟩) lo hi none).run P w=(Instr.slice t (.string ⟨s.toArray⟩) lo hi none).run P w:=ay;rw[e1];have:=ez (P:=P) (w:=w) false (len:=(⟨s.toArray⟩:ByteArray).size) (cap:=(⟨s.toArray⟩:ByteArray).size) hl (by rw[hsz];exact hh) h0 h1 (by rw[hsz];exact h2);simp only[Instr.slice,Sem.run_bind,run_underlying hu,Result.andThen_ok,TI,Cx,CF,Sem.run_pure,this]
   have e2:(⟨s.toArray⟩:ByteArray).extract l.toNat h.toNat=⟨((s.take h.toNat).drop l.toNat).toArray⟩:=by
    apply ByteArray.ext;simp[ByteArray.data_extract,List.extract_eq_take_drop,List.drop_take]
   rw[e2];exact .d _ _ (.str _)
  | sl xs=>
   obtain⟨⟨h3,h4⟩,h0,h1,h2,h5⟩:=ho;obtain⟨e,he⟩:=Fa.1 h4;have hu:=Hj he;cases hti:Cn P t with
   | none=>rw[hti] at h3;cases h3
   | some q=>
    obtain⟨kk,es⟩:=q;have hq:kk=none/\tsz P e=some es:=by
     unfold Cn at hti;rw[hu] at hti;cases hs:tsz P e with
     | none=>simp[hs] at hti
     | some n=>simp[hs] at hti;exact⟨hti.1.symm,by rw[hti.2]⟩
    obtain⟨rfl,hs⟩:=hq;rw[hti] at h5;simp only at h5;cases hv.Ar with
    | nil a cap=>
     have hl0:l=0:=OF;have hh0:h=0:=OF;subst hl0;subst hh0;refine⟨_,go rfl hu hs hh oo oo oo,?_⟩;exact .d _ _ (by simpa using BU.nil _ cap)
    | sl b off es' cap _ vals hI hcap hes hfl hc hr=>
     refine⟨_,go rfl hu hs hh h0 h1 oo,?_⟩;have hlen:((xs.take h.toNat).drop l.toNat).length=h.toNat-l.toNat:=Ap;by_cases hz:h.toNat-l.toNat=0
     ·rw[hz];have:(xs.take h.toNat).drop l.toNat=[]:=G3 oo;show AL w I μ σ _ (.d (.sl ((xs.take h.toNat).drop l.toNat)));rw[this];exact .d _ _ (.nil _ _)
     have hne:cap≠l.toNat:=oo;rw[A7 hne];have hxs:∃x,x∈xs:=by
      cases xs with
      | nil=>simp at h2;omega
      | cons x r=>exact⟨x,DE⟩
     obtain⟨x0,hx0⟩:=hxs;have hes':es'=es:=by rw[<-hes x0 hx0];exact h5 x0 hx0
     subst hes';have hget:∀(i:Nat) (x:D),((xs.take h.toNat).drop l.toNat)[i]? = some x->xs[l.toNat+i]? = some x/\l.toNat+i<xs.length:=λi x hx=>by
      rw[IW,Pa] at hx;split at hx
      ·refine⟨hx,?_⟩;rcases B9 (l.toNat+i) xs.length with h'|h'
       ·exact h'
       exact bm
      cases hx
     have hmem:∀x∈(xs.take h.toNat).drop l.toNat,x∈xs:=λx hx=>GS (K7 hx);have key:=BU.sl (w:=w) (I:=I) b (off+l.toNat*es') es' (cap-l.toNat) ((xs.take h.toNat).drop l.toNat) (λi j=>vals (l.toNat+i) j) hI (by rw[hlen];omega)
      (λx hx=>hes x (hmem x hx)) (λx hx=>hfl x (hmem x hx)) (λi j hi hj=>?_) (λi j x y hx hy=>hr (l.toNat+i) j x y (hget i x hx).1 hy)
     ·rw[hlen] at key;show AL w I μ σ _ (.d (.sl ((xs.take h.toNat).drop l.toNat)));simpa[KT] using AL.d (μ:=μ) (σ:=σ) _ _ key
     have hx:((xs.take h.toNat).drop l.toNat)[i]? = some ((xs.take h.toNat).drop l.toNat)[i]:=BP hi;have:=hc (l.toNat+i) j (hget i _ hx).2 hj;rw[<-this];congr 2;exact R_
  | _=>exact ho.elim
 | AA=>
  obtain⟨h3,h4,rfl,rfl⟩:=ho;obtain⟨e,he⟩:=Fa.1 h3;have hu:=Hj he;obtain⟨q,hq⟩:=Fa.1 h4;have hs:∃n,tsz P e=some n:=by
   unfold Cn at hq;rw[hu] at hq;cases hs:tsz P e with
   | none=>simp[hs] at hq
   | some n=>exact⟨n,rfl⟩
  obtain⟨n,hs⟩:=hs;cases hv;refine⟨_,go rfl hu hs hh oo oo oo,?_⟩;simpa[slV] using(AL.AA (w:=w) (I:=I) (μ:=μ) (σ:=σ))
 | A8 id off len=>
  obtain⟨h3,h0,h1,h2,h4,h5⟩:=ho;obtain⟨e,he⟩:=Fa.1 h3;have hu:=Hj he;obtain⟨e',hu',hs⟩:=dX h5;rw[hu] at hu';simp only[BF,TypeDesc.slice.injEq] at hu';subst hu';have hal:Br σ id:=lY;cases hv with
  | A8 _ _ _ _ hid hv'=>
   rcases hv' with⟨rfl,a,rfl⟩|⟨b,base,es,cap,q1,q2,rfl⟩
   ·have hl0:l=0:=OF;have hh0:h=0:=OF;subst hl0;subst hh0;refine⟨_,go rfl hu hs hh oo oo oo,?_⟩;simp only[Int.toNat_zero,FA,By,slV];exact .A8 _ _ _ _ hid (.inl ⟨rfl,a,rfl⟩)
   obtain⟨r1,r2,r3,r4,r5⟩:=q1 hal;refine⟨_,go rfl hu hs hh h0 h1 oo,?_⟩;subst r3;by_cases hz:cap=l.toNat
   ·rw[AD hz];have e1:h.toNat-l.toNat=0:=oo;have e2:cap-l.toNat=0:=oo;simp only[slV,e1,e2];exact WN
   rw[A7 hz];refine .A8 _ _ _ _ hid (.inr ⟨b,base,(A1 σ id).es,cap-l.toNat,λ_=>⟨r1,r2,rfl,oo,?_⟩,oo,?_⟩)
   ·have:off+l.toNat+(cap-l.toNat)=off+cap:=oo;rw[this];exact r5
   simp only[DF,KT];congr 3;exact R_
 | _=>exact ho.elim
def kP(h:Rel w I μ σ)(t:TypeId){v:Value}{u:AV}(hv:AL w I μ σ v u)(hs:u.storable=true):
  ∃w' μ',(Instr.box t v).run P w=.ok (.pointer (some ⟨w.heap.size,0,none⟩)) w'/\Rel w' I μ' (σ++[.box u.AO u])/\Ay σ.length w I μ σ w' I μ' (σ++[.box u.AO u]) /\
   AL w' I μ' (σ++[.box u.AO u]) (.pointer (some ⟨w.heap.size,0,none⟩)) (.ptr σ.length 0):=by
 obtain⟨vs,hc1,hc2,hc3⟩:=QI hv hs;have hsz:vs.toArray.size=u.AO:=by simpa using hc2
 have k:=Jt h (.cells vs.toArray t) (w.heap.size,0) (.box vs.toArray.size u);have r:=h.newBox vs.toArray t u (by rw[hsz]) (λj c hc=>by
  have:=hc3 j c Dc
  exact⟨this.2.1,this.1⟩)
 have q:=Qee (I:=I) (μ:=μ) (σ:=σ) (w:=w) vs.toArray t u;rw[hsz] at k r q;refine⟨_,_,?_,r,k,q⟩;simp only[Instr.box,newVar,newRow,hc1,Sem.run_bind,run_newObj,Result.andThen_ok,Sem.run_pure];rfl
def Qf5(h:Rel w I μ σ){t:TypeId}{z:Value}(hz:Bj P t=some z)(hs:(EZ z).storable=true):
  ∃w' μ',(Instr.alloc t true (.tuple #[])).run P w=.ok (.pointer (some ⟨w.heap.size,0,none⟩)) w'/\Rel w' I μ' (σ++[.box (EZ z).AO (EZ z)])/\Ay σ.length w I μ σ w' I μ' (σ++[.box (EZ z).AO (EZ z)]) /\
   AL w' I μ' (σ++[.box (EZ z).AO (EZ z)]) (.pointer (some ⟨w.heap.size,0,none⟩)) (.ptr σ.length 0):=by
 obtain⟨w',μ',h1,h2⟩:=kP (P:=P) h t (Um z) hs;refine⟨w',μ',?_,h2⟩;simp only[Instr.alloc,Sem.run_bind,YH hz,Result.andThen_ok];simp only[Instr.box,Sem.run_bind] at h1;exact h1
end Go.AM


namespace Go.AM
variable {P:Program} {w:World} {I:Im} {μ:Pos} {σ:Sto}
def zo{b o es:Nat}{xs:List D}(hes:0<es)(hsz:∀x∈xs,x.cells.length=es)(hfl:∀x∈xs,x.flat)
  (hc:∀(i j:Nat) (x y:D),xs[i]? = some x->x.cells[j]? = some y->∃v,w.cell? ⟨b,o+i*es+j,none⟩=some v/\BU w I v y) :
  ∃news:List Value,news.length=xs.length*es/\(∀j u,news[j]? = some u->w.cell? ⟨b,o+j,none⟩=some u) /\
   (∀(i j:Nat) (x y:D),xs[i]? = some x->x.cells[j]? = some y->∃u,news[i*es+j]? = some u/\BU w I u y)/\(∀u∈news,u.oneCell'=true):=by
 have at_:∀q,q<xs.length*es->∃u y,w.cell? ⟨b,o+q,none⟩=some u/\BU w I u y/\y.one=true:=λq hq=>by
  have hi:q / es<xs.length:=Nat.div_lt_of_lt_mul (by rw[T4];exact hq);have hj:q % es<es:=Nat.mod_lt _ hes;have hx:xs[q / es]? = some xs[q / es]:=BP hi;have hjl:q % es<xs[q / es].cells.length:=by rw[hsz _ (FZ hi)];exact hj
  obtain⟨v,hv,hr⟩:=hc (q / es) (q % es) _ _ hx (BP hjl);have e:o+q / es*es+q % es=o+q:=by rw[G1,TF]
  rw[e] at hv;exact⟨v,_,hv,hr,hfl _ (FZ hi) _ (FZ hjl)⟩
 refine⟨(List.range (xs.length*es)).map λq=>(w.cell? ⟨b,o+q,none⟩).getD Go.undef,A6,λj u hu=>?_,λi j x y hx hy=>?_,λu hu=>?_⟩
 ·rw[DG] at hu;rcases B9 j (xs.length*es) with hj|hj
  ·obtain⟨u',_,hu',_⟩:=at_ j hj;simp[hj,hu'] at hu;rw[<-hu];exact hu'
  simp[hj] at hu
 ·obtain⟨v,hv,hr⟩:=hc i j x y hx hy;refine⟨v,?_,hr⟩;have hil:i<xs.length:=by
   exact mV
  have hjl:j<es:=by
   rw[<-hsz x (Dn hx)];exact Ti
  have hq:i*es+j<xs.length*es:=by
   have:(i+1)*es<=xs.length*es:=EC es hil;exact OI
  rw[DG];rw[G1] at hv;simp[hq,hv]
 obtain⟨j,hj⟩:=GF hu;rw[DG] at hj;rcases B9 j (xs.length*es) with hjl|hjl
 ·obtain⟨u',y,hu',hr,h1⟩:=at_ j hjl;simp[hjl,hu'] at hj;rw[<-hj];exact hr.Dv h1
 simp[hjl] at hj
def Hg(σ:Sto)(es:Nat):AV->Prop
 | .d (.sl xs)=>∀x∈xs,x.cells.length=es
 | .A8 id _ _=>(A1 σ id).AY=true/\(A1 σ id).es=es
 | .AA=>True
 | _=>False
def SZ(σ:Sto)(es:Nat):AV->Prop
 | .A8 id _ _=>(A1 σ id).BN=true/\(A1 σ id).es=es
 | .AA=>True
 | _=>False
def ep{b o:Nat}{cs:List Value}(h:∀j v,cs[j]? = some v->w.cell? ⟨b,o+j,none⟩=some v):(loadCells ⟨b,o,none⟩ cs.length).run P w=.ok cs.toArray w:=
 run_loadCells_list w _ cs λj v hj=>by rw[KT];exact h j v hj
def SA(h:Rel w I μ σ){es:Nat}(hes:0<es){v:Value}{x:AV}(hv:AL w I μ σ v x)(ho:Hg σ es x):
  ∃(a:Option Addr) (c:Nat) (news:List Value),v=.slice a (x.elems σ).length c/\news.length=(x.elems σ).length*es /\
   (∀w':World,w'.heap=w.heap->(Builtin.firstCells es (x.elems σ).length v).run P w'=.ok news.toArray w') /\
   (∀(i j:Nat) (z y:D),(x.elems σ)[i]? = some z->z.cells[j]? = some y->∃u,news[i*es+j]? = some u/\BU w I u y)/\(∀u∈news,u.oneCell'=true) /\
   (∀z∈x.elems σ,z.cells.length=es)/\(∀z∈x.elems σ,z.flat)/\(∀(b o:Nat),a=some ⟨b,o,none⟩->∀j u,news[j]? = some u->w.cell? ⟨b,o+j,none⟩=some u):=by
 have none_:∀(a:Option Addr) (c:Nat),v=.slice a 0 c->x.elems σ=[]->∃(a:Option Addr) (c:Nat) (news:List Value),v=.slice a (x.elems σ).length c/\news.length=(x.elems σ).length*es /\
   (∀w':World,w'.heap=w.heap->(Builtin.firstCells es (x.elems σ).length v).run P w'=.ok news.toArray w') /\
   (∀(i j:Nat) (z y:D),(x.elems σ)[i]? = some z->z.cells[j]? = some y->∃u,news[i*es+j]? = some u/\BU w I u y)/\(∀u∈news,u.oneCell'=true) /\
   (∀z∈x.elems σ,z.cells.length=es)/\(∀z∈x.elems σ,z.flat)/\(∀(b o:Nat),a=some ⟨b,o,none⟩->∀j u,news[j]? = some u->w.cell? ⟨b,o+j,none⟩=some u):=by
  intro a c hv he;rw[he];refine⟨a,c,[],hv,A6,λw' _=>?_,λi j z y hz=>by simp at hz,λu hu=>RI,λz hz=>by simp at hz,λz hz=>by simp at hz,λb o _ j u hu=>RI⟩;subst hv;cases a with
  | none=>simp[Builtin.firstCells]
  | some a=>simp[Builtin.firstCells,loadCells,loadCellsFrom]
 have some_:∀(b o c:Nat),v=.slice (some ⟨b,o,none⟩) (x.elems σ).length c->(∀z∈x.elems σ,z.cells.length=es)->(∀z∈x.elems σ,z.flat) ->
   (∀(i j:Nat) (z y:D),(x.elems σ)[i]? = some z->z.cells[j]? = some y->∃v,w.cell? ⟨b,o+i*es+j,none⟩=some v/\BU w I v y)->∃(a:Option Addr) (c:Nat) (news:List Value),v=.slice a (x.elems σ).length c/\news.length=(x.elems σ).length*es /\
   (∀w':World,w'.heap=w.heap->(Builtin.firstCells es (x.elems σ).length v).run P w'=.ok news.toArray w') /\
   (∀(i j:Nat) (z y:D),(x.elems σ)[i]? = some z->z.cells[j]? = some y->∃u,news[i*es+j]? = some u/\BU w I u y)/\(∀u∈news,u.oneCell'=true) /\
   (∀z∈x.elems σ,z.cells.length=es)/\(∀z∈x.elems σ,z.flat)/\(∀(b o:Nat),a=some ⟨b,o,none⟩->∀j u,news[j]? = some u->w.cell? ⟨b,o+j,none⟩=some u):=by
  intro b o c hv h1 h2 h3;obtain⟨news,n1,n2,n3,n4⟩:=zo hes h1 h2 h3;refine⟨some ⟨b,o,none⟩,c,news,hv,n1,λw' hw'=>?_,n3,n4,h1,h2,λb' o' he=>by simp only[BF,Addr.mk.injEq] at he;obtain⟨rfl,rfl,_⟩:=he;exact n2⟩;subst hv;have:(loadCells ⟨b,o,none⟩ news.length).run P w'=.ok news.toArray w':=ep λj u hj=>by
   rw[World.cell?_of_block (w:=w) (by rw[hw'])];exact n2 j u hj
  rw[n1] at this;simpa[Builtin.firstCells] using this
 cases x with
 | d y=>
  cases y with
  | sl xs=>
   cases hv.Ar with
   | nil a cap=>exact none_ a cap rfl rfl
   | sl b off es' cap _ vals hI hcap hes' hfl hc hr=>
    have e:xs=[]\/es'=es:=by
     cases xs with
     | nil=>exact .inl rfl
     | cons z r=>right;rw[<-hes' z DE];exact ho z DE
    rcases e with rfl|rfl
    ·exact none_ _ cap rfl rfl
    refine some_ b off cap rfl hes' hfl λi j z y hz hy=>?_;have hz':xs[i]? = some z:=hz;have hil:i<xs.length:=by
     rcases B9 i xs.length with h'|h'
     ·exact h'
     rw[Bt h'] at hz';cases hz'
    have hjl:j<es':=by
     rw[<-hes' z (Dn hz')];rcases B9 j z.cells.length with h'|h'
     ·exact h'
     exact c8
    exact⟨vals i j,hc i j hil hjl,hr i j z y hz' hy⟩
  | _=>exact ho.elim
 | AA=>cases hv;exact none_ none 0 rfl rfl
 | A8 id off len=>
  obtain⟨h1,h2⟩:=ho;have hal:Br σ id:=b9;cases hv with
  | A8 _ _ _ _ hid hh=>
   rcases hh with⟨rfl,a,rfl⟩|⟨b,base,es',cap,q1,q2,rfl⟩
   ·exact none_ a 0 rfl (by simp[AV.elems])
   obtain⟨r1,r2,r3,r4,r5⟩:=q1 hal;rw[h2] at r3;subst r3;have hlen:((AV.A8 id off len).elems σ).length=len:=by simp[AV.elems];omega
   by_cases hz:len=0
   ·subst hz;exact none_ _ cap rfl (by simp[AV.elems])
   obtain⟨b',base',_,_,hμ,h5,h6,h7⟩:=h.arrOf h1 (i:=off) oo;rw[r1] at hμ;simp only[BF,EO] at hμ;obtain⟨rfl,rfl⟩:=hμ;rw[h2] at h5 h7;have hmem:∀z∈(AV.A8 id off len).elems σ,z∈(A1 σ id).xs:=λz hz=>K7 (GS hz);refine some_ b (base+off*es) cap (by rw[hlen]) (λz hz=>h5 z (hmem z hz)) (λz hz=>h6 z (hmem z hz)) λi j z y hz hy=>?_;have hz':(A1 σ id).xs[off+i]? = some z:=by
    simp only[AV.elems] at hz;rw[Pa] at hz;split at hz
    ·simpa using hz
    cases hz
   obtain⟨v,hv,hr⟩:=h7 (off+i) j z y hz' hy;refine⟨v,?_,hr⟩;rw[<-hv];congr 2;exact R_
 | _=>exact ho.elim
def YD{t1 t2 ty e:TypeId}{i:TypeInfo}{e2:TypeId}(ht:P.underlying t1=some (.slice e))(hi:P.info? e=some i)(ht2:P.underlying t2=some (.slice e2))
  {sb xa:Option Addr} {sLen sCap m c:Nat} {news:List Value} (hf:(Builtin.firstCells i.size m (.slice xa m c)).run P w=.ok news.toArray w) (hroom:sLen+m<=sCap)
  {w':World} (hst:match sb with|some a=>(storeCells (a.add (sLen*i.size)) news).run P w=.ok () w'|none=>w'=w) :
  (Builtin.append_ #[t1,t2] ty #[.slice sb sLen sCap,.slice xa m c]).run P w=.ok (.slice sb (sLen+m) sCap) w':=by
 cases sb with
 | none=>subst hst;simp[Builtin.append_,run_underlying ht,run_underlying ht2,sizeOf,typeInfo,hi,Builtin.lenOf,hroom,hf]
 | some a=>simp[Builtin.append_,run_underlying ht,run_underlying ht2,sizeOf,typeInfo,hi,Builtin.lenOf,hroom,hf,hst]
def eh{t1 t2 ty e:TypeId}{i:TypeInfo}{z:Value}{e2:TypeId}(ht:P.underlying t1=some (.slice e))(hi:P.info? e=some i)(hz:i.zero=some z)(ht2:P.underlying t2=some (.slice e2))
  {sb xa:Option Addr} {sLen sCap m c:Nat} {olds news:List Value} (hf:∀w':World,w'.heap=w.heap->(Builtin.firstCells i.size m (.slice xa m c)).run P w'=.ok news.toArray w')
  (ho:∀w':World,w'.heap=w.heap->(Builtin.firstCells i.size sLen (.slice sb sLen sCap)).run P w'=.ok olds.toArray w')
  (hg:sCap<sLen+m) (h63:sLen+m<=4611686018427387904) (hfit:(sLen+m)*i.bytes<=140737488355328) :
  (Builtin.append_ #[t1,t2] ty #[.slice sb sLen sCap,.slice xa m c]).run P w =
   .ok (.slice (some ⟨w.heap.size,0,none⟩) (sLen+m) (grownCap w (sLen+m) sCap e))
    (w.drew.alloc (.cells (olds.toArray++news.toArray++Builtin.zeroCells z.cells (grownCap w (sLen+m) sCap e-(sLen+m))) e)):=by
 have hn:¬(sLen+m<=sCap):=oo;have h63':¬(9223372036854775807<((sLen:Int)+(m:Int))):=oo;have h48:=growslice_fits hg hfit;have h48':¬(281474976710656<Builtin.nextslicecap (sLen+m) sCap*i.bytes):=oo;have hf':=hf w.drew rfl;have ho':=ho w.drew rfl;simp[Builtin.append_,run_underlying ht,run_underlying ht2,sizeOf,typeInfo,zeroValue,hi,hz,Builtin.lenOf,hn,h63',h48',Question.forced,hf',ho',newRow,grownCap];congr 2;apply VY;simp
def Io.free{w':World}(h:Rel w I μ σ){b:Nat}(hI:¬I.fr b)(hno:∀id o,(A1 σ id).own=true->μ id≠some (b,o))(ww:Io b w w'):Rel w' I μ σ/\Ay σ.length w I μ σ w' I μ σ:=by
 have k:Ay σ.length w I μ σ w' I μ σ:=⟨ww.os,ww.tape,ww.output,by rw[ww.size];exact AR _,λ_ h=>h,λ_ h=>h,λ_ h=>.inl h,λb' hb=>ww.FM b' (λe=>hI (e▸hb)),λb'=>by
  by_cases e:b'=b
  ·subst e;rw[ww.bsize];exact AR _
  rw[Oj (ww.FM b' e)];exact AR _,AR _,λ_ _ h=>⟨h,rfl,rfl,rfl,AR _⟩⟩
 refine⟨⟨λb' hb=>by rw[ww.size];exact h.Bs b' hb,λid hid=>(h.D6 id hid).AH k rfl λho b' o hμ=>⟨ww.FM b' (λe=>hno id o ho (by rw[hμ,e])),λhn=>hn⟩,h.apart⟩,k⟩
def Rel.addArr(h:Rel w I μ σ){b base es:Nat}{xs:List D}(hI:¬I.fr b)(hno:∀id o,(A1 σ id).own=true->μ id≠some (b,o))(hp:G_ w b)(hn:base+xs.length*es<=DQ w b)
  (hes:∀x∈xs,x.cells.length=es) (hfl:∀x∈xs,x.flat)
  (hc:∀(i j:Nat) (x y:D),xs[i]? = some x->x.cells[j]? = some y->∃u,w.cell? ⟨b,base+i*es+j,none⟩=some u/\BU w I u y) :
  Rel w I (F0 μ σ.length (b,base)) (σ++[.arr es xs])/\Ay σ.length w I μ σ w I (F0 μ σ.length (b,base)) (σ++[.arr es xs]):=by
 have k:Ay σ.length w I μ σ w I (F0 μ σ.length (b,base)) (σ++[.arr es xs]):=
  ⟨rfl,rfl,rfl,AR _,λ_ h=>h,λ_ h=>h,λ_ h=>.inl h,λ_ _=>rfl,λ_=>AR _,A6,λid hid ha=>by
   unfold Br at *
   rw[BB hid] at ha ⊢
   exact⟨ha,H8 _ _ oo,rfl,rfl,AR _⟩⟩
 refine⟨⟨h.Bs,λid hid=>?_,?_⟩,k⟩
 ·simp only[Bb,CT,C6] at hid;by_cases e:id=σ.length
  ·subst e;rw[Cd];exact .inr ⟨b,base,Eh _ _ _,hI,hp,hn,hes,hfl,hc⟩
  exact oG
 intro i j bi bj oi oj hij hi hj hμi hμj;have li:=E2 hi;have lj:=E2 hj;simp only[Bb,CT,C6] at li lj;by_cases ei:i=σ.length
 ·exact ot
 have li':i<σ.length:=oo;rw[H8 _ _ ei] at hμi;rw[BB li'] at hi;by_cases ej:j=σ.length
 ·exact og
 have lj':j<σ.length:=oo;rw[H8 _ _ ej] at hμj;rw[BB lj'] at hj;exact h.apart i j bi bj oi oj hij hi hj hμi hμj
def Rel.Em(h:Rel w I μ σ)(es:Nat):∃μ',Rel w I μ' (σ++[.arr es []])/\Ay σ.length w I μ σ w I μ' (σ++[.arr es []]):=by
 let μ':Pos:=λi=>if i=σ.length then none else μ i
 have ne:∀i,i≠σ.length->μ' i=μ i:=λi hi=>by simp[μ',hi]
 have k:Ay σ.length w I μ σ w I μ' (σ++[.arr es []]):=
  ⟨rfl,rfl,rfl,AR _,λ_ h=>h,λ_ h=>h,λ_ h=>.inl h,λ_ _=>rfl,λ_=>AR _,A6,λid hid ha=>by
   unfold Br at *
   rw[BB hid] at ha ⊢
   exact⟨ha,ne _ oo,rfl,rfl,AR _⟩⟩
 refine⟨μ',⟨h.Bs,λid hid=>?_,?_⟩,k⟩
 ·simp only[Bb,CT,C6] at hid;by_cases e:id=σ.length
  ·subst e;rw[Cd];exact .inl ⟨by simp[μ'],rfl⟩
  have hid':id<σ.length:=oo;rw[BB hid'];exact(h.D6 id hid').AH k (ne _ e) λ_ _ _ _=>⟨rfl,λhn=>hn⟩
 intro i j bi bj oi oj hij hi hj hμi hμj;have li:=E2 hi;have lj:=E2 hj;simp only[Bb,CT,C6] at li lj;by_cases ei:i=σ.length
 ·subst ei;simp[μ'] at hμi
 by_cases ej:j=σ.length
 ·subst ej;simp[μ'] at hμj
 rw[ne _ ei] at hμi;rw[ne _ ej] at hμj;rw[BB oo] at hi hj;exact h.apart i j bi bj oi oj hij hi hj hμi hμj
def Dr(σ:Sto):AV->Sto
 | .A8 id _ _=>σ.set id .dead
 | _=>σ
def fH(h:Rel w I μ σ)(s:AV):Rel w I μ (Dr σ s)/\Ay σ.length w I μ σ w I μ (Dr σ s)/\(Dr σ s).length=σ.length:=by
 cases s with
 | A8 id _ _=>exact⟨h.kill id,gy id,by simp[Dr]⟩
 | _=>exact⟨h,Ay.refl _ _ _ _ (AR _),rfl⟩
def Qr(P:Program)(σ:Sto)(t1 t2:TypeId)(s x:AV):Prop:=
 match B_ P t1 with
 | some e=>match tsz P e,E_ P e,Bj P e with
  | some es,some CD,some z=>0<es/\z.cells.size=es/\(B_ P t2).isSome=true/\SZ σ es s/\Hg σ es x/\(s.len+(x.elems σ).length)*CD<=140737488355328/\s.len+(x.elems σ).length<=4611686018427387904
  | _,_,_=>False
 | none=>False
def D2(P:Program)(t1:TypeId):Nat:=match B_ P t1 with|some e=>(tsz P e).getD 0|none=>0
def apS(P:Program)(σ:Sto)(t1:TypeId)(s x:AV):Sto:=Dr σ s++[.arr (D2 P t1) (s.elems σ++x.elems σ)]
def apV(σ:Sto)(s x:AV):AV:=.A8 σ.length 0 (s.len+(x.elems σ).length)
def Yd{e:TypeId}{es CD:Nat}{z:Value}(h1:tsz P e=some es)(h2:E_ P e=some CD)(h3:Bj P e=some z):∃i,P.info? e=some i/\i.size=es/\i.bytes=CD/\i.zero=some z:=by
 unfold tsz at h1;unfold E_ at h2;unfold Bj at h3;cases hi:P.info? e with
 | none=>rw[hi] at h1;cases h1
 | some i=>
  rw[hi] at h1 h2 h3;simp at h1 h2 h3;exact⟨i,rfl,h1,h2,h3⟩
def vj{v:Value}(h:AL w I μ σ v .AA):v=.slice none 0 0:=TT
def OV{v:Value}{id off len:Nat}(h:AL w I μ σ v (.A8 id off len)):id<σ.length/\((len=0/\∃a,v=.slice a 0 0) \/
    ∃b base es cap,(Br σ id->μ id=some (b,base)/\(A1 σ id).B7=true/\(A1 σ id).es=es/\off+len<=(A1 σ id).xs.length/\base+(off+cap)*es<=DQ w b) /\
     len<=cap/\v=.slice (some ⟨b,base+off*es,none⟩) len cap):=by
 cases h with
 | A8 _ _ _ _ hid hh=>exact⟨hid,hh⟩
def rZ(h:Rel w I μ σ){t1 t2 ty:TypeId}{sv xv:Value}{s x:AV}(hs:AL w I μ σ sv s)(hx:AL w I μ σ xv x)(ho:Qr P σ t1 t2 s x):
  ∃z w' μ',(Builtin.append_ #[t1,t2] ty #[sv,xv]).run P w=.ok z w'/\Rel w' I μ' (apS P σ t1 s x)/\Ay σ.length w I μ σ w' I μ' (apS P σ t1 s x)/\AL w' I μ' (apS P σ t1 s x) z (apV σ s x):=by
 unfold Qr at ho;cases hte:B_ P t1 with
 | none=>rw[hte] at ho;exact ho.elim
 | some e=>
 rw[hte] at ho;cases hz1:tsz P e with
 | none=>simp[hz1] at ho
 | some es=>
 cases hz2:E_ P e with
 | none=>simp[hz1,hz2] at ho
 | some CD=>
 cases hz3:Bj P e with
 | none=>simp[hz1,hz2,hz3] at ho
 | some zv=>
 simp only[hz1,hz2,hz3] at ho;obtain⟨hes,hzs,ht2,hd,hsrc,hbytes,h62⟩:=ho;obtain⟨i,hi,i1,i2,i3⟩:=Yd hz1 hz2 hz3;obtain⟨e2,he2⟩:=Fa.1 ht2;have hu1:=Hj hte;have hu2:=Hj he2;have hap:D2 P t1=es:=W5;obtain⟨xa,xc,news,hxv,hnl,hfx,hnr,hn1,hxs,hxf,_⟩:=SA (P:=P) h hes hx hsrc;have hsrcS:Hg σ es s:=by
  cases s with
  | A8 id off len=>exact⟨by have:=hd.1;cases hB:A1 σ id<;>simp_all [Blk.BN,Blk.AY],hd.2⟩
  | AA=>trivial
  | _=>exact hd.elim
 obtain⟨sa,sc,olds,hsv,hol,hfs,hor,ho1,hss,hsf,hoc⟩:=SA (P:=P) h hes hs hsrcS;have hlen:s.len=(s.elems σ).length:=by
  cases s with
  | AA=>rfl
  | A8 id off len=>
   cases hs with
   | A8 _ _ _ _ hid hh=>
    rcases hh with⟨rfl,a,rfl⟩|⟨b,base,es',cap,_,_,rfl⟩
    ·simp at hsv;exact hsv.2.1
    simp at hsv;exact hsv.2.1
  | _=>exact hd.elim
 obtain⟨hr1,hk1,hl1⟩:=fH h s;rw[hlen] at hbytes h62;have hV:apV σ s x=.A8 σ.length 0 ((s.elems σ).length+(x.elems σ).length):=by unfold apV;rw[hlen]
 have hallsz:∀z∈s.elems σ++x.elems σ,z.cells.length=es:=λz hz=>(CH.1 hz).elim (hss z) (hxs z);have hallfl:∀z∈s.elems σ++x.elems σ,z.flat:=λz hz=>(CH.1 hz).elim (hsf z) (hxf z);have hjl:∀{z y:D} {j:Nat},z.cells.length=es->z.cells[j]? = some y->j<es:=λ{z y j} hz hy=>by
  exact mR
 have hboth:∀(i j:Nat) (z y:D),(s.elems σ++x.elems σ)[i]? = some z->z.cells[j]? = some y->∃u,(olds++news)[i*es+j]? = some u/\BU w I u y:=λi j z y hz hy=>by
  have hj:=hjl (hallsz z (Dn hz)) hy;by_cases hi':i<(s.elems σ).length
  ·rw[Ec hi'] at hz;obtain⟨u,hu,hr⟩:=hor i j z y hz hy;refine⟨u,?_,hr⟩;have:i*es+j<olds.length:=by
    rw[hol];have:(i+1)*es<=(s.elems σ).length*es:=EC es hi';exact Tb
   rw[Ec this];exact hu
  rw[G2 oo] at hz;obtain⟨u,hu,hr⟩:=hnr (i-(s.elems σ).length) j z y hz hy;refine⟨u,?_,hr⟩;have e3:i*es+j=olds.length+((i-(s.elems σ).length)*es+j):=by
   rw[hol,<-G1,<-E8];congr 2;omega
  rw[e3,G2 oo,EB];exact hu
 subst hxv;subst hsv;unfold apS;rw[hap,hV];by_cases hroom:(s.elems σ).length+(x.elems σ).length<=sc
 · -- in place
  have degen:(∃a,(Value.slice sa (s.elems σ).length sc)=.slice a 0 0)->∃z w' μ',(Builtin.append_ #[t1,t2] ty #[.slice sa (s.elems σ).length sc,.slice xa (x.elems σ).length xc]).run P w=.ok z w'/\Rel w' I μ' (Dr σ s++[.arr es (s.elems σ++x.elems σ)]) /\
    Ay σ.length w I μ σ w' I μ' (Dr σ s++[.arr es (s.elems σ++x.elems σ)])/\AL w' I μ' (Dr σ s++[.arr es (s.elems σ++x.elems σ)]) z (.A8 σ.length 0 ((s.elems σ).length+(x.elems σ).length)):=by
   rintro⟨a,ha⟩;simp only[Value.slice.injEq] at ha;obtain⟨rfl,hl0,rfl⟩:=ha;have hm0:(x.elems σ).length=0:=oo;have e1:s.elems σ=[]:=G3 hl0;have e2':x.elems σ=[]:=G3 hm0;have hn0:news=[]:=G3 (by rw[hnl,hm0,MS]);obtain⟨μ',q1,q2⟩:=hr1.Em es;rw[hl1] at q2;rw[e1,e2'];refine⟨.slice sa 0 0,w,μ',?_,q1,hk1.trans q2,.A8 _ _ _ _ TS (.inl ⟨rfl,sa,rfl⟩)⟩;have:=YD (P:=P) (w:=w) (ty:=ty) hu1 hi hu2 (sb:=sa) (sLen:=0) (sCap:=0) (m:=0) (c:=xc) (xa:=xa) (news:=[]) (by have:=hfx w rfl;rw[hm0,hn0] at this;rw[i1];exact this) (AR 0) (w':=w) (by
    cases sa with
    | none=>rfl
    | some a=>simp[storeCells])
   simpa using this
  cases s with
  | AA=>exact degen ⟨none,vj hs⟩
  | A8 id off len=>
   have hal:Br σ id:=by have:=hd.1;unfold Br;cases hB:A1 σ id<;>simp_all [Blk.BN,Blk.AP]
   have hown:(A1 σ id).own=true:=by have:=hd.1;cases hB:A1 σ id<;>simp_all [Blk.BN,Blk.own]
   have hlen':len=((AV.A8 id off len).elems σ).length:=hlen;generalize hE:(AV.A8 id off len).elems σ=E at *;obtain⟨hid,hh⟩:=OV hs;rcases hh with⟨hl0,a,ha⟩|⟨b,base,es',cap,q1,q2,hv⟩
   ·exact degen ⟨a,ha⟩
   simp only[Value.slice.injEq] at hv;obtain⟨rfl,hEl,rfl⟩:=hv;obtain⟨r1,r2,r3,r4,r5⟩:=q1 hal;have hes2:(A1 σ id).es=es:=hd.2;rw[hes2] at r3;subst r3;obtain⟨hbl,hnI⟩:=Jo h hid hown r1;have hpl:G_ w b:=by
    have hb:=h.D6 id hid;cases hB:A1 σ id with
    | arr es' xs'=>
     rw[hB] at hb;rcases hb with⟨h1,_⟩|⟨b',base',h1,_,h3,_⟩
     ·rw[r1] at h1;cases h1
     rw[r1] at h1;simp only[BF,EO] at h1;obtain⟨rfl,rfl⟩:=h1;exact h3
    | _=>simp[SZ,hB,Blk.BN] at hd
   have hbnd:base+off*es+E.length*es+news.length<=DQ w b:=by
    rw[hnl];have h3:(off+(E.length+(x.elems σ).length))*es<=(off+sc)*es:=EC es oo;rw[E8,E8] at h3;omega
   obtain⟨w',hr,ww,hw⟩:=Oe (P:=P) (w:=w) (b:=b) (o:=base+off*es+E.length*es) (vs:=news) hpl hbnd hn1;have hno:∀j o,(A1 (Dr σ (.A8 id off len)) j).own=true->μ j≠some (b,o):=λj o hj hμj=>by
    have hne:id≠j:=λe=>by
     subst e;have:=E2 hj;simp only[Dr,BH] at this;rw[Dr,BX this] at hj;simp[Blk.own] at hj
    rw[Dr,As hne] at hj;exact h.apart id j b b base o hne hown hj r1 hμj rfl
   obtain⟨f1,f2⟩:=Io.free hr1 hnI hno ww;have cellNew:∀q u,(olds++news)[q]? = some u->w'.cell? ⟨b,base+off*es+q,none⟩=some u:=λq u hq=>by
    exact pK
   obtain⟨g1,g2⟩:=f1.addArr (base:=base+off*es) (es:=es) (xs:=E++x.elems σ) hnI hno (ww.plain hpl) (by
    rw[ww.bsize,Bb]
    rw[hnl] at hbnd
    rw[E8];omega) hallsz hallfl (λi j z y hz hy=>by
     obtain⟨u,hu,hr⟩:=hboth i j z y hz hy
     exact⟨u,by rw[G1];exact cellNew _ u hu,hr.AH f2.Bs f2.CB⟩)
   refine⟨_,w',_,YD (P:=P) (w:=w) (ty:=ty) hu1 hi hu2 (by rw[i1];exact hfx w rfl) hroom (by rw[i1];simp only[KT];exact hr),by rw[hl1] at g1;exact g1,?_,?_⟩
   ·rw[hl1] at g2 f2;exact hk1.trans (f2.trans g2)
   refine .A8 _ _ _ _ TS (.inr ⟨b,base+off*es,es,sc,λ_=>?_,hroom,A6⟩);have eb:A1 (Dr σ (.A8 id off len)++[.arr es (E++x.elems σ)]) σ.length=.arr es (E++x.elems σ):=W4;rw[eb];refine⟨Eh _ _ _,rfl,rfl,RH,?_⟩;rw[ww.bsize,EU];rw[E8] at r5;omega
  | _=>exact hd.elim
 -- a new array
 have hrun:=eh (P:=P) (w:=w) (ty:=ty) hu1 hi i3 hu2 (λw' hw'=>by rw[i1];exact hfx w' hw') (λw' hw'=>by rw[i1];exact hfs w' hw') (Nat.lt_of_not_le hroom) h62 (by rw[i2];exact hbytes);have sm:HN w w.drew:=HN.drew w;have hr2:=sm.rel hr1;have hk2:Ay (Dr σ s).length w I μ (Dr σ s) w.drew I μ (Dr σ s):=sm.AH;have hcap:=grownCap_ge w ((s.elems σ).length+(x.elems σ).length) sc e;generalize grownCap w ((s.elems σ).length+(x.elems σ).length) sc e=cap at *;have hcsz:(olds.toArray++news.toArray++Builtin.zeroCells zv.cells (cap-((s.elems σ).length+(x.elems σ).length))).size=cap*es:=by
  exact nq
 have hnew:=hr2.Gq (olds.toArray++news.toArray++Builtin.zeroCells zv.cells (cap-((s.elems σ).length+(x.elems σ).length))) e es (s.elems σ++x.elems σ) (by
  rw[hcsz,Bb];exact EC es hcap) hallsz hallfl (λi j z y hz hy=>by
   obtain⟨u,hu,hr⟩:=hboth i j z y hz hy
   refine⟨u,?_,BU.AH (w:=w) (w':=w.drew) (I:=I) (I':=I) (λ_ h=>h) (λ_ _=>rfl) hr⟩
   have hlt:i*es+j<(olds++news).length:=by
    rcases B9 (i*es+j) (olds++news).length with h'|h'
    ·exact h'
    rw[Bt h'] at hu;cases hu
   rw[TL (by simpa using hlt)]
   have:(olds.toArray++news.toArray)=(olds++news).toArray:=A6
   rw[this];simpa using hu)
 have hk3:=Jt hr2 (.cells (olds.toArray++news.toArray++Builtin.zeroCells zv.cells (cap-((s.elems σ).length+(x.elems σ).length))) e) (w.drew.heap.size,0) (.arr es (s.elems σ++x.elems σ));refine⟨_,_,_,hrun,hnew,?_,?_⟩
 ·rw[hl1] at hk2 hk3 ⊢;exact hk1.trans (hk2.trans hk3)
 refine .A8 _ _ _ _ TS (.inr ⟨w.heap.size,0,es,cap,λ_=>?_,hcap,A6⟩);have eb:A1 (Dr σ s++[.arr es (s.elems σ++x.elems σ)]) σ.length=.arr es (s.elems σ++x.elems σ):=W4;rw[eb];refine⟨by rw[<-hl1];exact Eh _ _ _,rfl,rfl,RH,?_⟩;have:=Kb w.drew (olds.toArray++news.toArray++Builtin.zeroCells zv.cells (cap-((s.elems σ).length+(x.elems σ).length))) e;have e5:w.drew.heap.size=w.heap.size:=rfl;rw[e5] at this;rw[this,hcsz];simp
end Go.AM


namespace Go.AM
variable {P:Program} {w:World} {I:Im} {μ:Pos} {σ:Sto}
def eW(off:Nat):∀(vs:List Value) (k:Nat) (c:Array Value),off+k+vs.length<=c.size ->
  ((vs.zipIdx k).foldl (λ(cs:Array Value) p=>cs.setIfInBounds (off+p.2) p.1) c).size=c.size /\
  ∀q,((vs.zipIdx k).foldl (λ(cs:Array Value) p=>cs.setIfInBounds (off+p.2) p.1) c)[q]? = if off+k<=q/\q<off+k+vs.length then vs[q-(off+k)]? else c[q]?
 | [],k,c,_=>⟨rfl,λq=>by simp only[List.zipIdx_nil,Nx,C6,Gb];rw[A7 oo]⟩
 | v::vs,k,c,h=>by
  simp only[CT] at h;have ih:=eW off vs (k+1) (c.setIfInBounds (off+k) v) Ap;simp only[List.zipIdx_cons,GQ];refine⟨by rw[ih.1];simp,λq=>?_⟩;rw[ih.2 q];simp only[CT];by_cases h1:q=off+k
  ·subst h1;rw[A7 oo,AD oo,O9 oo,FA];rfl
  by_cases h2:off+(k+1)<=q/\q<off+(k+1)+vs.length
  ·rw[AD h2,AD oo];have:q-(off+k)=(q-(off+(k+1)))+1:=oo;rw[this];rfl
  rw[A7 h2,A7 oo,Pb oo]
def Wj(off:Nat)(cs:Array Value)(vs:List Value)(hv:cs=vs.toArray)(c:Array Value)(h:off+vs.length<=c.size):
  (cs.zipIdx.foldl (λcs (x:Value×Nat)=>cs.setIfInBounds (off+x.2) x.1) c).size=c.size /\
  ∀q,(cs.zipIdx.foldl (λcs (x:Value×Nat)=>cs.setIfInBounds (off+x.2) x.1) c)[q]? = if off<=q/\q<off+vs.length then vs[q-off]? else c[q]? := by
 subst hv;have e:((vs.toArray).zipIdx.foldl (λcs (x:Value×Nat)=>cs.setIfInBounds (off+x.2) x.1) c)=(vs.zipIdx 0).foldl (λ(cs:Array Value) p=>cs.setIfInBounds (off+p.2) p.1) c:=by
  rw[<-Array.foldl_toList];simp
 rw[e];have:=eW off vs 0 c Dy;simpa using this
def KW(cs:List AV)(off:Nat)(v:AV):Nat->List AV
 | 0=>cs
 | n+1=>(KW cs off v n).set (off+n) (v.cellAt n)
def YK(cs:List AV)(off:Nat)(v:AV)(n:Nat):(KW cs off v n).length=cs.length:=by
 induction n with
 | zero=>rfl
 | succ n ih=>simp[KW,ih]
def eR(cs:List AV)(off:Nat)(v:AV)(n q:Nat)(h:off+n<=cs.length):(KW cs off v n)[q]? = if off<=q/\q<off+n then some (v.cellAt (q-off)) else cs[q]? := by
 induction n with
 | zero=>rw[A7 oo];rfl
 | succ n ih=>
  simp only[KW];by_cases e:q=off+n
  ·subst e;rw[AD oo,Lg (by rw[YK];omega)];congr 2;omega
  rw[IX oo,ih oo];by_cases h2:off<=q/\q<off+n
  ·rw[AD h2,AD oo]
  rw[A7 h2,A7 oo]
def J6(pl:List (Nat×Nat)):List AV->List (Nat×AV)->List AV
 | cs,[]=>cs
 | cs,(i,v)::rest=>match pl[i]? with
  | some (off,size)=>J6 pl (KW cs off v size) rest
  | none=>J6 pl cs rest
def Mt(pl:List (Nat×Nat))(N:Nat):List (Nat×AV)->Prop
 | []=>True
 | (i,v)::rest=>(match pl[i]? with
  | some (off,size)=>v.AO=size/\off+size<=N/\v.storable=true
  | none=>False)/\Mt pl N rest
def UD(w:World)(I:Im)(μ:Pos)(σ:Sto)(c:Array Value)(l:List AV):Prop:=
 c.size=l.length/\(∀x∈l,x.one=true)/\∀(j:Nat) (u:Value) (x:AV),c[j]? = some u->l[j]? = some x->AL w I μ σ u x
def ka{pl:List (Nat×Nat)}{place:Nat->Option (Nat×Nat)}:∀{parts:List (Nat×AV)} {vals:List (Nat×Value)} {c:Array Value} {l:List AV},
  parts.map Prod.fst=vals.map Prod.fst->(∀i∈parts.map Prod.fst,∀p,pl[i]? = some p->place i=some p)->(∀(k:Nat) (p:Nat×AV) (q:Nat×Value),parts[k]? = some p->vals[k]? = some q->AL w I μ σ q.2 p.2) ->
  UD w I μ σ c l->Mt pl l.length parts->∃c',Instr.fill place c vals=some c'/\UD w I μ σ c' (J6 pl l parts)
 | [],vals,c,l,hf,_,_,hc,_=>by
  cases vals with
  | nil=>exact⟨c,rfl,hc⟩
  | cons _ _=>simp at hf
 | (i,v)::parts,vals,c,l,hf,hp,hr,hc,ho=>by
  cases vals with
  | nil=>simp at hf
  | cons q vals=>
   obtain⟨i',u⟩:=q;simp only[Ci,Zw] at hf;obtain⟨rfl,hf⟩:=hf;obtain⟨ho1,ho2⟩:=ho;cases hpl:pl[i]? with
   | none=>rw[hpl] at ho1;exact ho1.elim
   | some os=>
    obtain⟨off,size⟩:=os;rw[hpl] at ho1;obtain⟨p1,p2,p3⟩:=ho1;have hpi:=hp i A6 _ hpl;have hv:AL w I μ σ u v:=hr 0 (i,v) (i,u) rfl rfl;obtain⟨vs,hc1,hc2,hc3⟩:=QI hv p3;rw[p1] at hc2;have hsz:u.cells.size=size:=by rw[hc1];simpa using hc2
    obtain⟨f1,f2⟩:=Wj off u.cells vs hc1 c (by rw[hc.1];omega);have hc':UD w I μ σ (u.cells.zipIdx.foldl (λcs (x:Value×Nat)=>cs.setIfInBounds (off+x.2) x.1) c) (KW l off v size):=by
     refine⟨by rw[f1,YK];exact hc.1,λx hx=>?_,λj u' x hu hx=>?_⟩
     ·obtain⟨j,hj⟩:=GF hx;rw[eR _ _ _ _ _ p2] at hj;split at hj
      ·rename_i hin;simp only[BF] at hj;subst hj;have hlt:j-off<vs.length:=oo;exact(hc3 _ _ (BP hlt)).2.1
      exact hc.2.1 x (Dn hj)
     rw[f2,hc2] at hu;rw[eR _ _ _ _ _ p2] at hx;split at hx
     ·rename_i hin;rw[AD hin] at hu;simp only[BF] at hx;subst hx;exact(hc3 _ _ hu).1
     rename_i hin;rw[A7 hin] at hu;exact hc.2.2 j u' x hu hx
    obtain⟨c',g1,g2⟩:=ka (parts:=parts) (vals:=vals) hf (λi hi p hpi=>hp i (by simp only[Ci,Bw];exact .inr hi) p hpi) (λk p q hk hq=>hr (k+1) p q hk hq) hc' (by rw[YK];exact ho2);refine⟨c',?_,by simp only[J6,hpl];exact g2⟩;simp only[Instr.fill,hpi,hsz];rw[A7]
    ·exact g1
    exact nh
def DR(P:Program)(t:TypeId):Option (List (Nat×Nat)):=
 match P.underlying t with
 | some (.array n e)=>(P.info? e).map λie=>(List.range n).map λi=>(i*ie.size,ie.size)
 | some (.struct fields)=>fields.toList.mapM (λf=>(P.info? f.type).map λi=>(f.offset,i.size))
 | _=>none
def DM(P:Program)(t:TypeId):Option (List AV):=
 match Bj P t with
 | some z=>if(z.cells.toList.map IE).all AV.one then some (z.cells.toList.map IE) else none
 | none=>none
def qN{t:TypeId}{l:List AV}(h:DM P t=some l):∃z,Bj P t=some z/\UD w I μ σ z.cells l:=by
 unfold DM at h;split at h
 ·rename_i z hz;split at h
  ·rename_i hall;simp only[BF] at h;subst h;refine⟨z,by assumption,A6,λx hx=>EW.1 hall x hx,λj u x hu hx=>?_⟩;rw[DG] at hx;have:z.cells.toList[j]? = some u:=by simpa using hu
   rw[this] at hx;simp at hx;subst hx;exact Xt u
  cases h
 cases h
def Qfx{t:TypeId}{pl:List (Nat×Nat)}{zc:List AV}(hpl:DR P t=some pl)(hz:DM P t=some zc){parts:List (Nat×AV)}{vals:Array (Nat×Value)}(hf:parts.map Prod.fst=vals.toList.map Prod.fst)
  (hr:∀(k:Nat) (p:Nat×AV) (q:Nat×Value),parts[k]? = some p->vals.toList[k]? = some q->AL w I μ σ q.2 p.2) (ho:Mt pl zc.length parts) :
  ∃z,(Instr.build t vals).run P w=.ok z w/\AL w I μ σ z (FV (J6 pl zc parts)):=by
 obtain⟨z,hz1,hz2⟩:=qN (w:=w) (I:=I) (μ:=μ) (σ:=σ) hz;have fin:∀place:Nat->Option (Nat×Nat),(∀i p,pl[i]? = some p->place i=some p)->(∀c,Instr.fill place z.cells vals.toList=some c->P.built t vals.toList=some c) ->
   ∃z,(Instr.build t vals).run P w=.ok z w/\AL w I μ σ z (FV (J6 pl zc parts)):=by
  intro place h1 h2;obtain⟨c',g1,g2,g3,g4⟩:=ka hf (λi _ p hp=>h1 i p hp) hr hz2 ho;refine⟨.agg c',run_build w t vals c' (h2 c' g1),?_⟩;have:=QM (w:=w) (I:=I) (μ:=μ) (σ:=σ) (vs:=c'.toList) (cs:=J6 pl zc parts) TR g3 (λi v x hv hx=>g4 i v x Ph hx);simpa using this
 unfold Bj at hz1;unfold DR at hpl;cases hi:P.info? t with
 | none=>rw[hi] at hz1;cases hz1
 | some it=>
  rw[hi] at hz1;have hz1':it.zero=some z:=hz1;split at hpl
  ·rename_i n e hu;cases hie:P.info? e with
   | none=>rw[hie] at hpl;cases hpl
   | some ie=>
    rw[hie] at hpl;simp only[DF,BF] at hpl;refine fin (λi=>some (i*ie.size,ie.size)) (λi p hp=>?_) λc hc=>?_
    ·subst hpl;rw[DG] at hp;cases hri:(List.range n)[i]? with
     | none=>rw[hri] at hp;cases hp
     | some k=>
      rw[hri] at hp;simp only[DF,BF] at hp;have:=TD.1 hri;obtain⟨_,hk⟩:=this;simp at hk;subst hk;rw[<-hp]
    unfold Program.built;simp only[hi,hu,hz1',hie];exact hc
  ·rename_i fields hu;refine fin (pl.toArray[·]?) (λi p hp=>by simpa using hp) λc hc=>?_;unfold Program.built;simp only[hi,hu,hz1',hpl];exact hc
  cases hpl
end Go.AM
