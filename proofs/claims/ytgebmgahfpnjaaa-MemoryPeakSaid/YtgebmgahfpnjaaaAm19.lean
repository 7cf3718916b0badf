/-
  Rewriting rules for abstract values, the store, loads and stores.
-/
import Derived.Test.YtgebmgahfpnjaaaAm18
set_option linter.unnecessarySimpa false
set_option linter.unusedSectionVars false
set_option linter.unusedVariables false
set_option linter.unusedSimpArgs false
namespace Go.AM

section
variable {P : Program} {Gl : Globs} {env : Env} {σ : Sto} {n : Nat}
theorem r_getE_cons (s t : Nat) (v : AV) (r : Env) : getE ((s, v) :: r) t = if s = t then v else getE r t := rfl
theorem r_getE_nil (t : Nat) : getE [] t = .undef := rfl
theorem r_putE_some (d : Nat) (v : AV) : putE env (some d) v = (d, v) :: env := rfl
theorem r_putE_none (v : AV) : putE env none v = env := rfl
theorem r_dst_some (d : Nat) : (dstIn n (some d) = true) = (d < n) := by simp [dstIn]
theorem r_dst_none : (dstIn n none = true) = True := by simp [dstIn]
theorem const1_vg (v : Value) : (const1 v).vg = true ∧ (const1 v).un = const1 v := by unfold const1; split <;> exact ⟨rfl, rfl⟩
theorem mkAgg_vg (l : List AV) : (mkAgg l).vg = true ∧ (mkAgg l).un = mkAgg l := by unfold mkAgg; split <;> exact ⟨rfl, rfl⟩
theorem constV_vg (v : Value) : (constV v).vg = true ∧ (constV v).un = constV v := by
  unfold constV; split
  · split
    · exact mkAgg_vg _
    · exact ⟨rfl, rfl⟩
  · exact const1_vg _
theorem r_evG_tmp (t : Nat) : evG Gl env (.tmp t) = (getE env t).vg := rfl
theorem r_evG_const (v : Value) : evG Gl env (.const v) = true := (constV_vg v).1
theorem r_evG_func (f : FuncId) : evG Gl env (.func f) = true := rfl
theorem globV_vg (g : Nat) : (globV Gl g).vg = true ∧ (globV Gl g).un = globV Gl g := by unfold globV; split <;> exact ⟨rfl, rfl⟩
theorem r_evG_global (g : Nat) : evG Gl env (.global g) = true := (globV_vg g).1
theorem r_evU_tmp (t : Nat) : evU Gl env (.tmp t) = (getE env t).un := rfl
theorem r_evU_const (v : Value) : evU Gl env (.const v) = constV v := (constV_vg v).2
theorem r_evU_func (f : FuncId) : evU Gl env (.func f) = .fn f [] := rfl
theorem r_evU_global (g : Nat) : evU Gl env (.global g) = globV Gl g := (globV_vg g).2
theorem r_un_d (x : D) : (AV.d x).un = .d x := rfl
theorem r_un_nils : AV.nils.un = .nils := rfl
theorem r_un_agg (l : List AV) : (AV.agg l).un = .agg l := rfl
theorem r_un_ptr (i o : Nat) : (AV.ptr i o).un = .ptr i o := rfl
theorem r_un_eptr (e : Nat) (xs : List D) (i o : Nat) : (AV.eptr e xs i o).un = .eptr e xs i o := rfl
theorem r_un_aptr (j i o : Nat) : (AV.aptr j i o).un = .aptr j i o := rfl
theorem r_un_osl (j i o : Nat) : (AV.osl j i o).un = .osl j i o := rfl
theorem r_un_fn (f : FuncId) (c : List AV) : (AV.fn f c).un = .fn f c := rfl
theorem r_un_tup (l : List AV) : (AV.tup l).un = .tup l := rfl
theorem r_un_iff (g : Bool) (v : AV) : (AV.iff g v).un = v := rfl
theorem r_vg_d (x : D) : (AV.d x).vg = true := rfl
theorem r_vg_nils : AV.nils.vg = true := rfl
theorem r_vg_agg (l : List AV) : (AV.agg l).vg = true := rfl
theorem r_vg_ptr (i o : Nat) : (AV.ptr i o).vg = true := rfl
theorem r_vg_eptr (e : Nat) (xs : List D) (i o : Nat) : (AV.eptr e xs i o).vg = true := rfl
theorem r_vg_aptr (j i o : Nat) : (AV.aptr j i o).vg = true := rfl
theorem r_vg_osl (j i o : Nat) : (AV.osl j i o).vg = true := rfl
theorem r_vg_fn (f : FuncId) (c : List AV) : (AV.fn f c).vg = true := rfl
theorem r_vg_tup (l : List AV) : (AV.tup l).vg = true := rfl
theorem r_vg_iff (g : Bool) (v : AV) : (AV.iff g v).vg = g := rfl
theorem r_constV_int (k : IntKind) (i : Int) : constV (.int k i) = .d (.int k i) := rfl
theorem r_constV_bool (b : Bool) : constV (.bool b) = .d (.bool b) := rfl
theorem r_constV_str (s : ByteArray) : constV (.string s) = .d (.str s.data.toList) := rfl
theorem r_constV_nils : constV (.slice none 0 0) = .nils := rfl
theorem r_gdL_nil (g : Bool) : gdL Gl env g [] = True := rfl
theorem r_gdL_cons (g : Bool) (x : Operand) (r : List Operand) : gdL Gl env g (x :: r) = ((g = true → evG Gl env x = true) ∧ gdL Gl env g r) := rfl
theorem r_truth (b : Bool) : (AV.d (.bool b)).truth = b := rfl
theorem r_isBoolv (b : Bool) : (AV.d (.bool b)).isBoolv = true := rfl
theorem r_isIntv (k : IntKind) (i : Int) : (AV.d (.int k i)).isIntv = true := rfl
theorem r_num (k : IntKind) (i : Int) : (AV.d (.int k i)).num = i := rfl
theorem r_slotBool_d (b : Bool) : slotBool (.d (.bool b)) = true := rfl
theorem r_slotBool_iff (g b : Bool) : slotBool (.iff g (.d (.bool b))) = true := rfl
theorem r_slotTest_d (x b : Bool) : slotTest (.d (.bool x)) b = (x == b) := rfl
theorem r_slotTest_iff (g x b : Bool) : slotTest (.iff g (.d (.bool x))) b = (g && (x == b)) := rfl
theorem r_gSlot {dst : Option Tmp} {op : Op} {ty : TypeId} {pos : String} {af : Array Edge} {g : Option (Nat × Bool)} (l : List Oper) : gSlot ((⟨dst, op, ty, pos, af, g⟩ :: l).toArray) env 0 = (match dst with | some d => getE env d | none => .undef) := by
  cases dst <;> simp [gSlot]
theorem r_gSlot_succ (o : Oper) (l : List Oper) (j : Nat) : gSlot ((o :: l).toArray) env (j + 1) = gSlot l.toArray env j := by simp [gSlot]
theorem r_pickV_bool (c p q : Bool) : pickV c (.d (.bool p)) (.d (.bool q)) = .d (.bool (bif c then p else q)) := rfl
theorem r_pickV_int (c : Bool) (k k' : IntKind) (p q : Int) : pickV c (.d (.int k p)) (.d (.int k' q)) = .d (bif c then .int k p else .int k' q) := rfl

/-! the store -/
theorem r_blk0 (B : Blk) (σ : Sto) : blkAt (B :: σ) 0 = B := rfl
theorem r_blkS (B : Blk) (σ : Sto) (i : Nat) : blkAt (B :: σ) (i + 1) = blkAt σ i := by simp [blkAt]
theorem r_boxN (k : Nat) (v : AV) : (Blk.box k v).boxN = k := rfl
theorem r_boxV (k : Nat) (v : AV) : (Blk.box k v).boxV = v := rfl
theorem r_isBox (k : Nat) (v : AV) : (Blk.box k v).isBox = true := rfl
theorem r_isOwnArr (es : Nat) (xs : List D) : (Blk.arr es xs).isOwnArr = true := rfl
theorem r_isArr (es : Nat) (xs : List D) : (Blk.arr es xs).isArr = true := rfl
theorem r_isArr' (es : Nat) (xs : List D) : (Blk.frz es xs).isArr = true := rfl
theorem r_es (es : Nat) (xs : List D) : (Blk.arr es xs).es = es := rfl
theorem r_es' (es : Nat) (xs : List D) : (Blk.frz es xs).es = es := rfl
theorem r_xs (es : Nat) (xs : List D) : (Blk.arr es xs).xs = xs := rfl
theorem r_xs' (es : Nat) (xs : List D) : (Blk.frz es xs).xs = xs := rfl
theorem r_own (es : Nat) (xs : List D) : (Blk.arr es xs).own = true := rfl
theorem r_own' (es : Nat) (xs : List D) : (Blk.frz es xs).own = false := rfl

/-! loads and stores -/
theorem r_ldOk_ptr (g : Bool) (k id off : Nat) : ldOk σ g k (.ptr id off) = ((blkAt σ id).isBox = true ∧ partOk (blkAt σ id).boxN off k g (blkAt σ id).boxV.isAgg) := rfl
theorem r_ldOk_eptr (g : Bool) (k es : Nat) (xs : List D) (i off : Nat) : ldOk σ g k (.eptr es xs i off) = (i < xs.length ∧ partOk es off k g (xs.getD i default).isAgg) := rfl
theorem r_ldOk_aptr (g : Bool) (k id i off : Nat) : ldOk σ g k (.aptr id i off) = ((blkAt σ id).isArr = true ∧ i < (blkAt σ id).xs.length ∧ partOk (blkAt σ id).es off k g ((blkAt σ id).xs.getD i default).isAgg) := rfl
theorem r_ldV_ptr (g : Bool) (k id off : Nat) : ldV σ g k (.ptr id off) = (blkAt σ id).boxV.partV (blkAt σ id).boxN off k g := rfl
theorem r_ldV_eptr (g : Bool) (k es : Nat) (xs : List D) (i off : Nat) : ldV σ g k (.eptr es xs i off) = .d ((xs.getD i default).partD es off k g) := rfl
theorem r_ldV_aptr (g : Bool) (k id i off : Nat) : ldV σ g k (.aptr id i off) = .d (((blkAt σ id).xs.getD i default).partD (blkAt σ id).es off k g) := rfl
theorem r_partOk (N off k : Nat) (g whole : Bool) : partOk N off k g whole = (off + k ≤ N ∧ (if off = 0 ∧ k = N then whole = g else (whole = true ∧ (g = true ∨ k = 1)))) := rfl
theorem r_partV_d (x : D) (N off k : Nat) (g : Bool) : (AV.d x).partV N off k g = .d (x.partD N off k g) := by
  unfold AV.partV D.partD; split
  · rfl
  · split <;> rfl
theorem r_partV (v : AV) (N off k : Nat) (g : Bool) : v.partV N off k g = if off = 0 ∧ k = N then v else if g = true then v.subV off k else v.cellAt off := rfl
theorem r_partD (x : D) (N off k : Nat) (g : Bool) : x.partD N off k g = if off = 0 ∧ k = N then x else if g = true then x.sub off k else x.cell off := rfl
theorem r_subV_d (x : D) (o k : Nat) : (AV.d x).subV o k = .d (x.sub o k) := rfl
theorem r_cellAt_d (x : D) (j : Nat) : (AV.d x).cellAt j = .d (x.cell j) := rfl
theorem r_cellAt_agg (l : List AV) (j : Nat) : (AV.agg l).cellAt j = l.getD j .undef := rfl
theorem r_stOk_ptr (k id off : Nat) (u : AV) : stOk σ k u (.ptr id off) = ((blkAt σ id).isBox = true ∧ off + k ≤ (blkAt σ id).boxN ∧ u.storable = true ∧ u.ncells = k) := rfl
theorem r_stOk_aptr (k id i off : Nat) (u : AV) : stOk σ k u (.aptr id i off) = ((blkAt σ id).isOwnArr = true ∧ i < (blkAt σ id).xs.length ∧ off + k ≤ (blkAt σ id).es ∧ u.isD σ = true ∧ (u.toD σ).cells.length = k ∧ (¬ id ∈ u.refs)) := rfl
theorem r_stS_ptr (k id off : Nat) (u : AV) : stS σ k u (.ptr id off) = σ.set id (.box (blkAt σ id).boxN (putV (blkAt σ id).boxV (blkAt σ id).boxN off k u)) := rfl
theorem r_stS_aptr (k id i off : Nat) (u : AV) : stS σ k u (.aptr id i off) = (freezeL σ u.refs).set id (.arr (blkAt σ id).es ((blkAt σ id).xs.set i (((blkAt σ id).xs.getD i default).putAt (blkAt σ id).es off k (u.toD σ)))) := rfl
theorem r_putV (v : AV) (N off k : Nat) (u : AV) : putV v N off k u = if off = 0 ∧ k = N then u else mkAgg ((List.range N).map fun j => if off ≤ j ∧ j < off + k then u.cellAt (j - off) else v.cellAt j) := rfl
theorem r_isAgg_d (x : D) : (AV.d x).isAgg = x.isAgg := rfl
theorem r_isAgg_agg (l : List AV) : (AV.agg l).isAgg = true := rfl
theorem r_isAgg_osl (i o k : Nat) : (AV.osl i o k).isAgg = false := rfl
theorem r_isAgg_nils : AV.nils.isAgg = false := rfl
theorem r_storable_d (x : D) : (AV.d x).storable = true := rfl
theorem r_storable_agg (l : List AV) : (AV.agg l).storable = true := rfl
theorem r_storable_osl (i o k : Nat) : (AV.osl i o k).storable = true := rfl
theorem r_storable_nils : AV.nils.storable = true := rfl
theorem r_ncells_d (x : D) : (AV.d x).ncells = x.cells.length := rfl
theorem r_ncells_agg (l : List AV) : (AV.agg l).ncells = l.length := rfl
theorem r_ncells_osl (i o k : Nat) : (AV.osl i o k).ncells = 1 := rfl
theorem r_ncells_nils : AV.nils.ncells = 1 := rfl
theorem r_isD_d (x : D) : (AV.d x).isD σ = true := rfl
theorem r_isD_nils : AV.nils.isD σ = true := rfl
theorem r_isD_osl (i o k : Nat) : (AV.osl i o k).isD σ = (blkAt σ i).isArr := rfl
theorem r_isD_agg (l : List AV) : (AV.agg l).isD σ = l.all (isD1 σ) := rfl
theorem r_toD_d (x : D) : (AV.d x).toD σ = x := rfl
theorem r_toD_nils : AV.nils.toD σ = .sl [] := rfl
theorem r_toD_osl (i o k : Nat) : (AV.osl i o k).toD σ = .sl (((blkAt σ i).xs.drop o).take k) := rfl
theorem r_toD_agg (l : List AV) : (AV.agg l).toD σ = .agg (l.map (toD1 σ)) := rfl
theorem r_refs_d (x : D) : (AV.d x).refs = [] := rfl
theorem r_refs_nils : AV.nils.refs = [] := rfl
theorem r_refs_osl (i o k : Nat) : (AV.osl i o k).refs = [i] := rfl
theorem r_refs_agg (l : List AV) : (AV.agg l).refs = l.flatMap ref1 := rfl
theorem r_freezeL_nil : freezeL σ [] = σ := rfl
theorem r_freezeL_cons (i : Nat) (l : List Nat) : freezeL σ (i :: l) = freezeL (freeze σ i) l := rfl
theorem r_freeze0 (B : Blk) : freeze (B :: σ) 0 = B.frozen :: σ := rfl
theorem r_freezeS (B : Blk) (i : Nat) : freeze (B :: σ) (i + 1) = B :: freeze σ i := by simp [freeze, r_blkS]
theorem r_frozen (es : Nat) (xs : List D) : (Blk.arr es xs).frozen = .frz es xs := rfl
theorem r_isPtr_ptr (i o : Nat) : (AV.ptr i o).isPtr = true := rfl
theorem r_isPtr_eptr (e : Nat) (xs : List D) (i o : Nat) : (AV.eptr e xs i o).isPtr = true := rfl
theorem r_isPtr_aptr (j i o : Nat) : (AV.aptr j i o).isPtr = true := rfl
theorem r_shift_ptr (i o k : Nat) : (AV.ptr i o).shift k = .ptr i (o + k) := rfl
theorem r_shift_eptr (e : Nat) (xs : List D) (i o k : Nat) : (AV.eptr e xs i o).shift k = .eptr e xs i (o + k) := rfl
theorem r_shift_aptr (j i o k : Nat) : (AV.aptr j i o).shift k = .aptr j i (o + k) := rfl
theorem r_notNil_ptr (i o : Nat) : (AV.ptr i o).notNil = true := rfl
theorem r_notNil_eptr (e : Nat) (xs : List D) (i o : Nat) : (AV.eptr e xs i o).notNil = true := rfl
theorem r_notNil_aptr (j i o : Nat) : (AV.aptr j i o).notNil = true := rfl
theorem r_notNil_fn (f : FuncId) (c : List AV) : (AV.fn f c).notNil = true := rfl
theorem r_cells_agg (l : List D) : (D.agg l).cells = l := rfl
theorem r_cell_agg (l : List D) (i : Nat) : (D.agg l).cell i = l.getD i default := rfl
theorem r_sub_agg (l : List D) (o k : Nat) : (D.agg l).sub o k = .agg ((l.drop o).take k) := rfl
theorem r_DisAgg_agg (l : List D) : (D.agg l).isAgg = true := rfl
theorem r_DisAgg_int (k : IntKind) (i : Int) : (D.int k i).isAgg = false := rfl
theorem r_DisAgg_bool (b : Bool) : (D.bool b).isAgg = false := rfl
theorem r_DisAgg_str (s : List UInt8) : (D.str s).isAgg = false := rfl
theorem r_DisAgg_sl (l : List D) : (D.sl l).isAgg = false := rfl
theorem r_cells_int (k : IntKind) (i : Int) : (D.int k i).cells = [.int k i] := rfl
theorem r_cells_bool (b : Bool) : (D.bool b).cells = [.bool b] := rfl
theorem r_cells_str (s : List UInt8) : (D.str s).cells = [.str s] := rfl
theorem r_cells_sl (l : List D) : (D.sl l).cells = [.sl l] := rfl
theorem r_cell_int (k : IntKind) (i : Int) : (D.int k i).cell 0 = .int k i := rfl
theorem r_cell_bool (b : Bool) : (D.bool b).cell 0 = .bool b := rfl
theorem r_cell_str (s : List UInt8) : (D.str s).cell 0 = .str s := rfl
theorem r_cell_sl (l : List D) : (D.sl l).cell 0 = .sl l := rfl
theorem r_putAt (x : D) (N off k : Nat) (u : D) : x.putAt N off k u = if off = 0 ∧ k = N then u else .agg ((List.range N).map fun j => if off ≤ j ∧ j < off + k then u.cell (j - off) else x.cell j) := rfl

/-! arithmetic -/
theorem r_binV_int (o : BinOp) (x : D) (k : IntKind) (i : Int) : binV o (.d x) (.d (.int k i)) = .d (binD o x (.int k i)) := rfl
theorem r_binV_bool (o : BinOp) (x : D) (b : Bool) : binV o (.d x) (.d (.bool b)) = .d (binD o x (.bool b)) := rfl
theorem r_binV_str (o : BinOp) (x : D) (l : List UInt8) : binV o (.d x) (.d (.str l)) = .d (binD o x (.str l)) := rfl
theorem r_binV_agg (o : BinOp) (x : D) (l : List D) : binV o (.d x) (.d (.agg l)) = .d (binD o x (.agg l)) := rfl
theorem r_binV_nils (o : BinOp) (u : AV) : binV o u .nils = nilBin o (isNilV u) := rfl
theorem r_binV_raw (o : BinOp) (u : AV) (v : Value) : binV o u (.d (.raw v)) = nilBin o (isNilV u) := rfl
theorem r_nilBin_eql (a : AV) : nilBin .eql a = a := rfl
theorem r_nilBin_neq (b : Bool) : nilBin .neq (.d (.bool b)) = .d (.bool (!b)) := rfl
theorem r_nilBin_any : nilBin .neq .anyb = .anyb := rfl
theorem r_isNilV_nils : isNilV .nils = .d (.bool true) := rfl
theorem r_isNilV_raw (v : Value) : isNilV (.d (.raw v)) = .d (.bool true) := rfl
theorem r_isNilV_nil : isNilV (.d (.sl [])) = .anyb := rfl
theorem r_isNilV_cons (x : D) (l : List D) : isNilV (.d (.sl (x :: l))) = .d (.bool false) := rfl
theorem r_isNilV_osl (i o k : Nat) : isNilV (.osl i o k) = if k = 0 then .anyb else .d (.bool false) := rfl
theorem r_isNilV_ptr (i o : Nat) : isNilV (.ptr i o) = .d (.bool false) := rfl
theorem r_isNilV_eptr (e : Nat) (xs : List D) (i o : Nat) : isNilV (.eptr e xs i o) = .d (.bool false) := rfl
theorem r_isNilV_aptr (j i o : Nat) : isNilV (.aptr j i o) = .d (.bool false) := rfl
theorem r_isNilV_mapr (i : Nat) : isNilV (.mapr i) = .d (.bool false) := rfl
theorem r_binOk_int (t : TypeId) (o : BinOp) (x : D) (k : IntKind) (i : Int) : binOk P t o (.d x) (.d (.int k i)) = binOkD P t o x (.int k i) := rfl
theorem r_binOk_bool (t : TypeId) (o : BinOp) (x : D) (b : Bool) : binOk P t o (.d x) (.d (.bool b)) = binOkD P t o x (.bool b) := rfl
theorem r_binOk_str (t : TypeId) (o : BinOp) (x : D) (l : List UInt8) : binOk P t o (.d x) (.d (.str l)) = binOkD P t o x (.str l) := rfl
theorem r_binOk_agg (t : TypeId) (o : BinOp) (x : D) (l : List D) : binOk P t o (.d x) (.d (.agg l)) = binOkD P t o x (.agg l) := rfl
theorem r_binOk_nils_nils (t : TypeId) (o : BinOp) : binOk P t o .nils .nils = ((o = .eql ∨ o = .neq) ∧ (telem P t).isSome = true) := rfl
theorem r_binOk_nils_sl (t : TypeId) (o : BinOp) (l : List D) : binOk P t o (.d (.sl l)) .nils = ((o = .eql ∨ o = .neq) ∧ (telem P t).isSome = true) := rfl
theorem r_binOk_nils_osl (t : TypeId) (o : BinOp) (i j k : Nat) : binOk P t o (.osl i j k) .nils = ((o = .eql ∨ o = .neq) ∧ (telem P t).isSome = true) := rfl
theorem r_binOk_ptr_ptr (t : TypeId) (o : BinOp) (i j : Nat) : binOk P t o (.ptr i j) (.d (.raw (.pointer none))) = ((o = .eql ∨ o = .neq) ∧ tptr P t = true) := rfl
theorem r_binOk_ptr_eptr (t : TypeId) (o : BinOp) (e : Nat) (xs : List D) (i j : Nat) : binOk P t o (.eptr e xs i j) (.d (.raw (.pointer none))) = ((o = .eql ∨ o = .neq) ∧ tptr P t = true) := rfl
theorem r_binOk_ptr_aptr (t : TypeId) (o : BinOp) (k i j : Nat) : binOk P t o (.aptr k i j) (.d (.raw (.pointer none))) = ((o = .eql ∨ o = .neq) ∧ tptr P t = true) := rfl
theorem r_binOk_ptr_nil (t : TypeId) (o : BinOp) : binOk P t o (.d (.raw (.pointer none))) (.d (.raw (.pointer none))) = ((o = .eql ∨ o = .neq) ∧ tptr P t = true) := rfl
theorem r_binOk_map_mapr (t : TypeId) (o : BinOp) (i : Nat) : binOk P t o (.mapr i) (.d (.raw (.map none))) = ((o = .eql ∨ o = .neq) ∧ (tmap P t).isSome = true) := rfl
theorem r_binOk_map_nil (t : TypeId) (o : BinOp) : binOk P t o (.d (.raw (.map none))) (.d (.raw (.map none))) = ((o = .eql ∨ o = .neq) ∧ (tmap P t).isSome = true) := rfl
/-! maps -/
theorem r_un_mapr (i : Nat) : (AV.mapr i).un = .mapr i := rfl
theorem r_un_anyb : AV.anyb.un = .anyb := rfl
theorem r_vg_mapr (i : Nat) : (AV.mapr i).vg = true := rfl
theorem r_vg_anyb : AV.anyb.vg = true := rfl
theorem r_storable_mapr (i : Nat) : (AV.mapr i).storable = true := rfl
theorem r_storable_ptr (i o : Nat) : (AV.ptr i o).storable = true := rfl
theorem r_storable_fn (f : FuncId) (c : List AV) : (AV.fn f c).storable = true := rfl
theorem r_ncells_mapr (i : Nat) : (AV.mapr i).ncells = 1 := rfl
theorem r_ncells_ptr (i o : Nat) : (AV.ptr i o).ncells = 1 := rfl
theorem r_ncells_fn (f : FuncId) (c : List AV) : (AV.fn f c).ncells = 1 := rfl
theorem r_isAgg_mapr (i : Nat) : (AV.mapr i).isAgg = false := rfl
theorem r_isAgg_ptr (i o : Nat) : (AV.ptr i o).isAgg = false := rfl
theorem r_isAgg_fn (f : FuncId) (c : List AV) : (AV.fn f c).isAgg = false := rfl
theorem r_cellAt_mapr (i j : Nat) : (AV.mapr i).cellAt j = .mapr i := rfl
theorem r_cellAt_ptr (i o j : Nat) : (AV.ptr i o).cellAt j = .ptr i o := rfl
theorem r_cellAt_osl (i o k j : Nat) : (AV.osl i o k).cellAt j = .osl i o k := rfl
theorem r_cellAt_nils (j : Nat) : AV.nils.cellAt j = .nils := rfl
theorem r_cellAt_fn (f : FuncId) (c : List AV) (j : Nat) : (AV.fn f c).cellAt j = .fn f c := rfl
theorem r_allD_mapr (i : Nat) (r : List AV) : allD (.mapr i :: r) = none := rfl
theorem r_allD_fn (f : FuncId) (c : List AV) (r : List AV) : allD (.fn f c :: r) = none := rfl
theorem r_isMap (ik : Option IntKind) (f : Key → Option AV) : (Blk.map ik f).isMap = true := rfl
theorem r_mk (ik : Option IntKind) (f : Key → Option AV) : (Blk.map ik f).mk = ik := rfl
theorem r_mf (ik : Option IntKind) (f : Key → Option AV) : (Blk.map ik f).mf = f := rfl
theorem r_keyOf_int (k : IntKind) (i : Int) : keyOf (.d (.int k i)) = .i i := rfl
theorem r_keyOf_str (l : List UInt8) : keyOf (.d (.str l)) = .s l := rfl
theorem r_keyOk_int (ik : Option IntKind) (k : IntKind) (i : Int) : keyOk ik (.d (.int k i)) = (ik = some k) := rfl
theorem r_keyOk_str (ik : Option IntKind) (l : List UInt8) : keyOk ik (.d (.str l)) = (ik = none) := rfl
theorem r_lkOk_mapr (ik : Option IntKind) (i : Nat) : lkOk σ ik (.mapr i) = ((blkAt σ i).isMap = true ∧ (blkAt σ i).mk = ik) := rfl
theorem r_lkOk_nil (ik : Option IntKind) : lkOk σ ik (.d (.raw (.map none))) = True := rfl
theorem r_lkF_mapr (i : Nat) (k : Key) : lkF σ (.mapr i) k = (blkAt σ i).mf k := rfl
theorem r_lkF_nil (v : Value) (k : Key) : lkF σ (.d (.raw v)) k = none := rfl
theorem r_lkV_t (z m k : AV) : lkV σ z m k true = .tup [(lkF σ m (keyOf k)).getD z, .d (.bool (lkF σ m (keyOf k)).isSome)] := rfl
theorem r_lkV_f (z m k : AV) : lkV σ z m k false = (lkF σ m (keyOf k)).getD z := rfl
theorem r_muOk (ik : Option IntKind) (i : Nat) (v : AV) : muOk σ ik (.mapr i) v = ((blkAt σ i).isMap = true ∧ (blkAt σ i).mk = ik ∧ v.storable = true) := rfl
theorem r_muS (i : Nat) (k : Key) (v : AV) : muS σ k v (.mapr i) = σ.set i (.map (blkAt σ i).mk (mset (blkAt σ i).mf k v)) := rfl
theorem r_mdS (i : Nat) (k : Key) : mdS σ k (.mapr i) = σ.set i (.map (blkAt σ i).mk (mdel (blkAt σ i).mf k)) := rfl
theorem r_ok_lookup (t : TypeId) (x y : Operand) (b : Bool) : opOk P Gl σ env (.lookup t x y b) = (match tmap P t with | some (ik, e) => keyOk ik (evU Gl env y) ∧ lkOk σ ik (evU Gl env x) ∧ (tzero P e).isSome = true | none => False) := rfl
theorem r_v_lookup (t : TypeId) (x y : Operand) (b : Bool) : opV P Gl σ env (.lookup t x y b) = (match tmap P t with | some (_, e) => lkV σ (zeroV P e) (evU Gl env x) (evU Gl env y) b | none => .undef) := rfl
theorem r_s_lookup (t : TypeId) (x y : Operand) (b : Bool) : opS P Gl σ env (.lookup t x y b) = σ := rfl
theorem r_ok_mapUpdate (t : TypeId) (x y z : Operand) : opOk P Gl σ env (.mapUpdate t x y z) = (match tmap P t with | some (ik, _) => keyOk ik (evU Gl env y) ∧ muOk σ ik (evU Gl env x) (evU Gl env z) | none => False) := rfl
theorem r_v_mapUpdate (t : TypeId) (x y z : Operand) : opV P Gl σ env (.mapUpdate t x y z) = .undef := rfl
theorem r_s_mapUpdate (t : TypeId) (x y z : Operand) : opS P Gl σ env (.mapUpdate t x y z) = muS σ (keyOf (evU Gl env y)) (evU Gl env z) (evU Gl env x) := rfl
theorem r_ok_insert (t : TypeId) (x y z : Operand) : opOk P Gl σ env (.insert t x y z) = (match tmap P t with | some (ik, _) => keyOk ik (evU Gl env y) ∧ muOk σ ik (evU Gl env x) (evU Gl env z) | none => False) := rfl
theorem r_v_insert (t : TypeId) (x y z : Operand) : opV P Gl σ env (.insert t x y z) = .undef := rfl
theorem r_s_insert (t : TypeId) (x y z : Operand) : opS P Gl σ env (.insert t x y z) = muS σ (keyOf (evU Gl env y)) (evU Gl env z) (evU Gl env x) := rfl
theorem r_ok_makeMap (t : TypeId) (r : Option Operand) : opOk P Gl σ env (.makeMap t r) = (r = none ∧ (tmap P t).isSome = true) := rfl
theorem r_v_makeMap (t : TypeId) (r : Option Operand) : opV P Gl σ env (.makeMap t r) = .mapr σ.length := rfl
theorem r_s_makeMap (t : TypeId) (r : Option Operand) : opS P Gl σ env (.makeMap t r) = (match tmap P t with | some (ik, _) => σ ++ [.map ik fun _ => none] | none => σ) := rfl
theorem r_bi_delete_ok (m k : Operand) (t t2 : TypeId) : biOk P Gl σ env .delete [m, k] [t, t2] = (match tmap P t with | some (ik, _) => keyOk ik (evU Gl env k) ∧ delOk σ ik (evU Gl env m) | none => False) := rfl
theorem r_bi_delete_v (l : List Operand) : biV Gl σ env .delete l = .undef := rfl
theorem r_bi_delete_s (m k : Operand) (ts : List TypeId) : biS P Gl σ env .delete [m, k] ts = mdS σ (keyOf (evU Gl env k)) (evU Gl env m) := rfl
theorem r_delOk (ik : Option IntKind) (i : Nat) : delOk σ ik (.mapr i) = ((blkAt σ i).isMap = true ∧ (blkAt σ i).mk = ik) := rfl
theorem r_bi_clear_ok (x : Operand) (t : TypeId) : biOk P Gl σ env .clear [x] [t] = clOk P σ t (evU Gl env x) := rfl
theorem r_bi_clear_v (l : List Operand) : biV Gl σ env .clear l = .undef := rfl
theorem r_bi_clear_s (x : Operand) (t : TypeId) : biS P Gl σ env .clear [x] [t] = clS P σ t (evU Gl env x) := rfl
theorem r_clOk (t : TypeId) (i o k : Nat) : clOk P σ t (.osl i o k) = ((blkAt σ i).isOwnArr = true ∧ (match telem P t with | some e => (match tzero P e, dataZero P e with | some z, some _ => z.cells.size = (blkAt σ i).es | _, _ => False) | none => False)) := rfl
theorem r_clX (t : TypeId) : clX P t = (match telem P t with | some e => (dataZero P e).getD default | none => default) := rfl
theorem r_clS (t : TypeId) (i o k : Nat) : clS P σ t (.osl i o k) = σ.set i (.arr (blkAt σ i).es (clearL (blkAt σ i).xs o k (clX P t))) := rfl
theorem r_renV_mapr (ρ : List Nat) (i : Nat) : renV ρ σ (.mapr i) = (match idxIn ρ i with | some j => .mapr j | none => .undef) := rfl
theorem r_renV_anyb (ρ : List Nat) : renV ρ σ .anyb = .anyb := rfl
theorem r_renB_map (ρ : List Nat) (ik : Option IntKind) (f : Key → Option AV) : renB ρ σ (.map ik f) = .map ik fun k => (f k).map (renV ρ σ) := rfl
theorem r_getD_some (x y : AV) : (some x).getD y = x := rfl
theorem r_getD_none (y : AV) : (none : Option AV).getD y = y := rfl
theorem r_binD_int (o : BinOp) (k k' : IntKind) (a b : Int) : binD o (.int k a) (.int k' b) = intBin o k a b := rfl
theorem r_binD_str (o : BinOp) (a b : List UInt8) : binD o (.str a) (.str b) = strBin o a b := rfl
theorem r_binD_bool_eql (a b : Bool) : binD .eql (.bool a) (.bool b) = .bool (a == b) := rfl
theorem r_binD_bool_neq (a b : Bool) : binD .neq (.bool a) (.bool b) = .bool (!(a == b)) := rfl
theorem r_binD_agg_eql (a b : List D) : binD .eql (.agg a) (.agg b) = .bool (beqL a b) := rfl
theorem r_binD_agg_neq (a b : List D) : binD .neq (.agg a) (.agg b) = .bool (!(beqL a b)) := rfl
theorem r_binOkD_int (t : TypeId) (o : BinOp) (k k' : IntKind) (a b : Int) : binOkD P t o (.int k a) (.int k' b) = intBinOk o k k' b := rfl
theorem r_binOkD_str (t : TypeId) (o : BinOp) (a b : List UInt8) : binOkD P t o (.str a) (.str b) = strBinOk o a b := rfl
theorem r_binOkD_bool_eql (t : TypeId) (a b : Bool) : binOkD P t .eql (.bool a) (.bool b) = (P.underlying t = some .bool) := by simp [binOkD]
theorem r_binOkD_bool_neq (t : TypeId) (a b : Bool) : binOkD P t .neq (.bool a) (.bool b) = (P.underlying t = some .bool) := by simp [binOkD]
theorem r_binOkD_agg_eql (t : TypeId) (a b : List D) : binOkD P t .eql (.agg a) (.agg b) = (match tcmp P t with | some l => cmpL l a b = true | none => False) := by unfold binOkD; cases tcmp P t <;> simp
theorem r_binOkD_agg_neq (t : TypeId) (a b : List D) : binOkD P t .neq (.agg a) (.agg b) = (match tcmp P t with | some l => cmpL l a b = true | none => False) := by unfold binOkD; cases tcmp P t <;> simp
theorem r_unV_not (b : Bool) : unV .not (.d (.bool b)) = .d (.bool (!b)) := rfl
theorem r_unV_neg (k : IntKind) (i : Int) : unV .neg (.d (.int k i)) = .d (.int k (k.wrap (0 - i))) := rfl
theorem r_unOk_not (b : Bool) : unOk .not (.d (.bool b)) = True := rfl
theorem r_unOk_neg (k : IntKind) (i : Int) : unOk .neg (.d (.int k i)) = True := rfl

/-! slices -/
theorem r_len_sl (xs : List D) : (AV.d (.sl xs)).len = xs.length := rfl
theorem r_len_str (s : List UInt8) : (AV.d (.str s)).len = s.length := rfl
theorem r_len_osl (i o k : Nat) : (AV.osl i o k).len = k := rfl
theorem r_len_nils : AV.nils.len = 0 := rfl
theorem r_hasLen_sl (t : TypeId) (xs : List D) : (AV.d (.sl xs)).hasLen P t = (telem P t).isSome := rfl
theorem r_hasLen_str (t : TypeId) (s : List UInt8) : (AV.d (.str s)).hasLen P t = tstr P t := rfl
theorem r_hasLen_osl (t : TypeId) (i o k : Nat) : (AV.osl i o k).hasLen P t = (telem P t).isSome := rfl
theorem r_hasLen_nils (t : TypeId) : AV.nils.hasLen P t = (telem P t).isSome := rfl
theorem r_elems_sl (xs : List D) : (AV.d (.sl xs)).elems σ = xs := rfl
theorem r_elems_osl (i o k : Nat) : (AV.osl i o k).elems σ = ((blkAt σ i).xs.drop o).take k := rfl
theorem r_elems_nils : AV.nils.elems σ = [] := rfl
theorem r_idxOk_sl (es : Nat) (i : Int) (xs : List D) : idxOk σ es i (.d (.sl xs)) = (0 ≤ i ∧ i < xs.length ∧ (xs.getD i.toNat default).cells.length = es) := rfl
theorem r_idxOk_osl (es : Nat) (i : Int) (id o k : Nat) : idxOk σ es i (.osl id o k) = (0 ≤ i ∧ i < k ∧ (blkAt σ id).isArr = true ∧ (blkAt σ id).es = es) := rfl
theorem r_idxV_sl (es : Nat) (i : Int) (xs : List D) : idxV es i (.d (.sl xs)) = .eptr es xs i.toNat 0 := rfl
theorem r_idxV_osl (es : Nat) (i : Int) (id o k : Nat) : idxV es i (.osl id o k) = .aptr id (o + i.toNat) 0 := rfl
theorem r_biLen_ok (x : Operand) (t : TypeId) : biOk P Gl σ env .len [x] [t] = ((evU Gl env x).hasLen P t = true) := rfl
theorem r_biLen_V (x : Operand) : biV Gl σ env .len [x] = .d (.int .i64 (evU Gl env x).len) := rfl
theorem r_biLen_S (x : Operand) (t : TypeId) : biS P Gl σ env .len [x] [t] = σ := rfl
theorem r_biApp_ok (s x : Operand) (t1 t2 : TypeId) : biOk P Gl σ env .append [s, x] [t1, t2] = apOk P σ t1 t2 (evU Gl env s) (evU Gl env x) := rfl
theorem r_biApp_V (s x : Operand) : biV Gl σ env .append [s, x] = apV σ (evU Gl env s) (evU Gl env x) := rfl
theorem r_biApp_S (s x : Operand) (t1 t2 : TypeId) : biS P Gl σ env .append [s, x] [t1, t2] = apS P σ t1 (evU Gl env s) (evU Gl env x) := rfl
theorem r_biMin_ok (l : List Operand) (ts : List TypeId) : biOk P Gl σ env .min l ts = minmaxOk (l.map (evU Gl env)) := by unfold biOk; rfl
theorem r_biMin_V (l : List Operand) : biV Gl σ env .min l = minV (l.map (evU Gl env)) := by unfold biV; rfl
theorem r_biMin_S (l : List Operand) (ts : List TypeId) : biS P Gl σ env .min l ts = σ := by unfold biS; rfl
theorem r_biMax_ok (l : List Operand) (ts : List TypeId) : biOk P Gl σ env .max l ts = minmaxOk (l.map (evU Gl env)) := by unfold biOk; rfl
theorem r_biMax_V (l : List Operand) : biV Gl σ env .max l = maxV (l.map (evU Gl env)) := by unfold biV; rfl
theorem r_biMax_S (l : List Operand) (ts : List TypeId) : biS P Gl σ env .max l ts = σ := by unfold biS; rfl
theorem r_minmaxOk (x : AV) (r : List AV) : minmaxOk (x :: r) = (x.isIntv = true ∧ ∀ y ∈ r, y.isIntv = true) := rfl
theorem r_minV (k : IntKind) (i : Int) (r : List AV) : minV (.d (.int k i) :: r) = .d (.int k (minL r i)) := rfl
theorem r_maxV (k : IntKind) (i : Int) (r : List AV) : maxV (.d (.int k i) :: r) = .d (.int k (maxL r i)) := rfl
theorem r_minL_nil (a : Int) : minL [] a = a := rfl
theorem r_maxL_nil (a : Int) : maxL [] a = a := rfl
theorem r_minL_cons (x : AV) (r : List AV) (a : Int) : minL (x :: r) a = minL r (min a x.num) := by
  show minL r (if x.num < a then x.num else a) = _
  congr 1; omega
theorem r_maxL_cons (x : AV) (r : List AV) (a : Int) : maxL (x :: r) a = maxL r (max a x.num) := by
  show maxL r (if x.num > a then x.num else a) = _
  congr 1; omega
theorem r_tupAt (l : List AV) (i : Nat) : (AV.tup l).tupAt i = l.getD i .undef := rfl
theorem r_tupLen (l : List AV) : (AV.tup l).tupLen = l.length := rfl
theorem r_ok_move (x : Operand) : opOk P Gl σ env (.move x) = True := rfl
theorem r_v_move (x : Operand) : opV P Gl σ env (.move x) = evU Gl env x := rfl
theorem r_s_move (x : Operand) : opS P Gl σ env (.move x) = σ := rfl
theorem r_ok_assign (x : Operand) : opOk P Gl σ env (.assign x) = True := rfl
theorem r_v_assign (x : Operand) : opV P Gl σ env (.assign x) = evU Gl env x := rfl
theorem r_s_assign (x : Operand) : opS P Gl σ env (.assign x) = σ := rfl
theorem r_ok_alloc (t : TypeId) : opOk P Gl σ env (.alloc t) = (match tzero P t with | some z => (constV z).storable = true | none => False) := rfl
theorem r_v_alloc (t : TypeId) : opV P Gl σ env (.alloc t) = .ptr σ.length 0 := rfl
theorem r_s_alloc (t : TypeId) : opS P Gl σ env (.alloc t) = (match tzero P t with | some z => σ ++ [.box (constV z).ncells (constV z)] | none => σ) := rfl
theorem r_ok_box (t : TypeId) (x : Operand) : opOk P Gl σ env (.box t x) = ((evU Gl env x).storable = true) := rfl
theorem r_v_box (t : TypeId) (x : Operand) : opV P Gl σ env (.box t x) = .ptr σ.length 0 := rfl
theorem r_s_box (t : TypeId) (x : Operand) : opS P Gl σ env (.box t x) = σ ++ [.box (evU Gl env x).ncells (evU Gl env x)] := rfl
theorem r_ok_build (t : TypeId) (parts : Array (Nat × Operand)) : opOk P Gl σ env (.build t parts) = (match tplaces P t, tzeroA P t with | some pl, some zc => fillOk pl zc.length (partsU Gl env parts) | _, _ => False) := rfl
theorem r_v_build (t : TypeId) (parts : Array (Nat × Operand)) : opV P Gl σ env (.build t parts) = (match tplaces P t, tzeroA P t with | some pl, some zc => mkAgg (fillA pl zc (partsU Gl env parts)) | _, _ => .undef) := rfl
theorem r_s_build (t : TypeId) (parts : Array (Nat × Operand)) : opS P Gl σ env (.build t parts) = σ := rfl
theorem r_ok_buildSlice0 (t : TypeId) (parts : Array (Nat × Operand)) : opOk P Gl σ env (.buildSlice t 0 parts) = (parts = #[] ∧ (match telem P t with | some e => (tsz P e).isSome = true | none => False)) := rfl
theorem r_v_buildSlice0 (t : TypeId) (parts : Array (Nat × Operand)) : opV P Gl σ env (.buildSlice t 0 parts) = .osl σ.length 0 0 := rfl
theorem r_s_buildSlice0 (t : TypeId) (parts : Array (Nat × Operand)) : opS P Gl σ env (.buildSlice t 0 parts) = σ ++ [.arr (apEs P t) []] := rfl
theorem r_ok_buildSlice (t : TypeId) (k : Nat) (parts : Array (Nat × Operand)) : opOk P Gl σ env (.buildSlice t (k + 1) parts) = (bslOk P σ t (k + 1) (partsU Gl env parts)) := rfl
theorem r_v_buildSlice (t : TypeId) (k : Nat) (parts : Array (Nat × Operand)) : opV P Gl σ env (.buildSlice t (k + 1) parts) = .osl σ.length 0 (k + 1) := rfl
theorem r_s_buildSlice (t : TypeId) (k : Nat) (parts : Array (Nat × Operand)) : opS P Gl σ env (.buildSlice t (k + 1) parts) = bslS P σ t (k + 1) (partsU Gl env parts) := rfl
theorem r_ok_load (t : TypeId) (x : Operand) : opOk P Gl σ env (.load t x) = (match tkind P t, tsz P t with | some g, some n => ldOk σ g n (evU Gl env x) | _, _ => False) := rfl
theorem r_v_load (t : TypeId) (x : Operand) : opV P Gl σ env (.load t x) = (match tkind P t, tsz P t with | some g, some n => ldV σ g n (evU Gl env x) | _, _ => .undef) := rfl
theorem r_s_load (t : TypeId) (x : Operand) : opS P Gl σ env (.load t x) = σ := rfl
theorem r_ok_store (t : TypeId) (a x : Operand) : opOk P Gl σ env (.store t a x) = (match tsz P t with | some n => stOk σ n (evU Gl env x) (evU Gl env a) | none => False) := rfl
theorem r_v_store (t : TypeId) (a x : Operand) : opV P Gl σ env (.store t a x) = .undef := rfl
theorem r_s_store (t : TypeId) (a x : Operand) : opS P Gl σ env (.store t a x) = (match tsz P t with | some n => stS σ n (evU Gl env x) (evU Gl env a) | none => σ) := rfl
theorem r_ok_nilCheck (x : Operand) : opOk P Gl σ env (.nilCheck x) = ((evU Gl env x).notNil = true) := rfl
theorem r_v_nilCheck (x : Operand) : opV P Gl σ env (.nilCheck x) = evU Gl env x := rfl
theorem r_s_nilCheck (x : Operand) : opS P Gl σ env (.nilCheck x) = σ := rfl
theorem r_ok_binOp (o : BinOp) (t u : TypeId) (x y : Operand) : opOk P Gl σ env (.binOp o t x y u) = (binOk P t o (evU Gl env x) (evU Gl env y)) := rfl
theorem r_v_binOp (o : BinOp) (t u : TypeId) (x y : Operand) : opV P Gl σ env (.binOp o t x y u) = binV o (evU Gl env x) (evU Gl env y) := rfl
theorem r_s_binOp (o : BinOp) (t u : TypeId) (x y : Operand) : opS P Gl σ env (.binOp o t x y u) = σ := rfl
theorem r_ok_unOp (o : UnOp) (t : TypeId) (x : Operand) : opOk P Gl σ env (.unOp o t x) = (unOk o (evU Gl env x)) := rfl
theorem r_v_unOp (o : UnOp) (t : TypeId) (x : Operand) : opV P Gl σ env (.unOp o t x) = unV o (evU Gl env x) := rfl
theorem r_s_unOp (o : UnOp) (t : TypeId) (x : Operand) : opS P Gl σ env (.unOp o t x) = σ := rfl
theorem r_ok_convert (s t : TypeId) (x : Operand) : opOk P Gl σ env (.convert s t x) = ((P.underlying s).isSome = true ∧ (tintk P t).isSome = true ∧ (evU Gl env x).isIntv = true) := rfl
theorem r_v_convert (s t : TypeId) (x : Operand) : opV P Gl σ env (.convert s t x) = (match tintk P t with | some k => .d (.int k (k.wrap (evU Gl env x).num)) | none => .undef) := rfl
theorem r_s_convert (s t : TypeId) (x : Operand) : opS P Gl σ env (.convert s t x) = σ := rfl
theorem r_ok_makeSlice (t : TypeId) (x y : Operand) : opOk P Gl σ env (.makeSlice t x y) = (mkOk P t (evU Gl env x) (evU Gl env y)) := rfl
theorem r_v_makeSlice (t : TypeId) (x y : Operand) : opV P Gl σ env (.makeSlice t x y) = .osl σ.length 0 (evU Gl env x).num.toNat := rfl
theorem r_s_makeSlice (t : TypeId) (x y : Operand) : opS P Gl σ env (.makeSlice t x y) = mkS P σ t (evU Gl env x) := rfl
theorem r_ok_slice00 (t : TypeId) (x : Operand) : opOk P Gl σ env (.slice t x none none none) = (slOk P t σ 0 (evU Gl env x).len (evU Gl env x)) := by simp [opOk, boundOk, loOf, hiOf, cvOk]
theorem r_v_slice00 (t : TypeId) (x : Operand) : opV P Gl σ env (.slice t x none none none) = slV 0 (evU Gl env x).len (evU Gl env x) := rfl
theorem r_s_slice00 (t : TypeId) (x : Operand) : opS P Gl σ env (.slice t x none none none) = σ := rfl
theorem r_ok_slice10 (t : TypeId) (x y : Operand) : opOk P Gl σ env (.slice t x (some y) none none) = ((evU Gl env y).isIntv = true ∧ slOk P t σ (evU Gl env y).num (evU Gl env x).len (evU Gl env x)) := by simp [opOk, boundOk, loOf, hiOf, cvOk]
theorem r_v_slice10 (t : TypeId) (x y : Operand) : opV P Gl σ env (.slice t x (some y) none none) = slV (evU Gl env y).num (evU Gl env x).len (evU Gl env x) := rfl
theorem r_s_slice10 (t : TypeId) (x y : Operand) : opS P Gl σ env (.slice t x (some y) none none) = σ := rfl
theorem r_ok_slice01 (t : TypeId) (x y : Operand) : opOk P Gl σ env (.slice t x none (some y) none) = ((evU Gl env y).isIntv = true ∧ slOk P t σ 0 (evU Gl env y).num (evU Gl env x)) := by simp [opOk, boundOk, loOf, hiOf, cvOk]
theorem r_v_slice01 (t : TypeId) (x y : Operand) : opV P Gl σ env (.slice t x none (some y) none) = slV 0 (evU Gl env y).num (evU Gl env x) := rfl
theorem r_s_slice01 (t : TypeId) (x y : Operand) : opS P Gl σ env (.slice t x none (some y) none) = σ := rfl
theorem r_ok_slice11 (t : TypeId) (x y z : Operand) : opOk P Gl σ env (.slice t x (some y) (some z) none) = ((evU Gl env y).isIntv = true ∧ (evU Gl env z).isIntv = true ∧ slOk P t σ (evU Gl env y).num (evU Gl env z).num (evU Gl env x)) := by simp [opOk, boundOk, loOf, hiOf, cvOk]
theorem r_v_slice11 (t : TypeId) (x y z : Operand) : opV P Gl σ env (.slice t x (some y) (some z) none) = slV (evU Gl env y).num (evU Gl env z).num (evU Gl env x) := rfl
theorem r_s_slice11 (t : TypeId) (x y z : Operand) : opS P Gl σ env (.slice t x (some y) (some z) none) = σ := rfl
theorem r_ok_fieldAddr (s : TypeId) (x : Operand) (f : Nat) : opOk P Gl σ env (.fieldAddr s x f) = (match tfld P s f with | some (_, n, _) => n ≠ 0 ∧ (evU Gl env x).isPtr = true | none => False) := rfl
theorem r_v_fieldAddr (s : TypeId) (x : Operand) (f : Nat) : opV P Gl σ env (.fieldAddr s x f) = (match tfld P s f with | some (o, _, _) => (evU Gl env x).shift o | none => .undef) := rfl
theorem r_s_fieldAddr (s : TypeId) (x : Operand) (f : Nat) : opS P Gl σ env (.fieldAddr s x f) = σ := rfl
theorem r_ok_field (s : TypeId) (x : Operand) (f : Nat) : opOk P Gl σ env (.field s x f) = (match tfld P s f with | some (o, n, g) => (evU Gl env x).isAgg = true ∧ o + n ≤ (evU Gl env x).ncells ∧ (g = true ∨ n = 1) | none => False) := rfl
theorem r_v_field (s : TypeId) (x : Operand) (f : Nat) : opV P Gl σ env (.field s x f) = (match tfld P s f with | some (o, n, g) => (if g = true then (evU Gl env x).subV o n else (evU Gl env x).cellAt o) | none => .undef) := rfl
theorem r_s_field (s : TypeId) (x : Operand) (f : Nat) : opS P Gl σ env (.field s x f) = σ := rfl
theorem r_ok_indexAddr (t : TypeId) (x i : Operand) : opOk P Gl σ env (.indexAddr t x i) = ((evU Gl env i).isIntv = true ∧ (match tidx P t with | some (none, es) => idxOk σ es (evU Gl env i).num (evU Gl env x) | some (some k, _) => aidxOk k (evU Gl env i).num (evU Gl env x) | none => False)) := rfl
theorem r_v_indexAddr (t : TypeId) (x i : Operand) : opV P Gl σ env (.indexAddr t x i) = (match tidx P t with | some (none, es) => idxV es (evU Gl env i).num (evU Gl env x) | some (some _, es) => (evU Gl env x).shift ((evU Gl env i).num.toNat * es) | none => .undef) := rfl
theorem r_s_indexAddr (t : TypeId) (x i : Operand) : opS P Gl σ env (.indexAddr t x i) = σ := rfl
theorem r_ok_index (t : TypeId) (x i : Operand) : opOk P Gl σ env (.index t x i) = (tstr P t = true ∧ (evU Gl env x).isStrv = true ∧ (evU Gl env i).isIntv = true ∧ 0 ≤ (evU Gl env i).num ∧ (evU Gl env i).num < (evU Gl env x).strOf.length) := rfl
theorem r_v_index (t : TypeId) (x i : Operand) : opV P Gl σ env (.index t x i) = .d (.int .u8 ((evU Gl env x).strOf.getD (evU Gl env i).num.toNat 0).toNat) := rfl
theorem r_s_index (t : TypeId) (x i : Operand) : opS P Gl σ env (.index t x i) = σ := rfl
theorem r_ok_extract (x : Operand) (i : Nat) : opOk P Gl σ env (.extract x i) = (i < (evU Gl env x).tupLen) := rfl
theorem r_v_extract (x : Operand) (i : Nat) : opV P Gl σ env (.extract x i) = (evU Gl env x).tupAt i := rfl
theorem r_s_extract (x : Operand) (i : Nat) : opS P Gl σ env (.extract x i) = σ := rfl
theorem r_partsU (l : List (Nat × Operand)) : partsU Gl env l.toArray = l.map fun p => (p.1, evU Gl env p.2) := rfl
theorem r_fillA_nil (pl : List (Nat × Nat)) (cs : List AV) : fillA pl cs [] = cs := rfl
theorem r_fillA_cons (pl : List (Nat × Nat)) (cs : List AV) (i : Nat) (v : AV) (r : List (Nat × AV)) : fillA pl cs ((i, v) :: r) = (match pl[i]? with | some (off, size) => fillA pl (setCells cs off v size) r | none => fillA pl cs r) := rfl
theorem r_fillOk_nil (pl : List (Nat × Nat)) (N : Nat) : fillOk pl N [] = True := rfl
theorem r_fillOk_cons (pl : List (Nat × Nat)) (N : Nat) (i : Nat) (v : AV) (r : List (Nat × AV)) : fillOk pl N ((i, v) :: r) = ((match pl[i]? with | some (off, size) => v.ncells = size ∧ off + size ≤ N ∧ v.storable = true | none => False) ∧ fillOk pl N r) := rfl
theorem r_setCells0 (cs : List AV) (off : Nat) (v : AV) : setCells cs off v 0 = cs := rfl
theorem r_setCellsS (cs : List AV) (off : Nat) (v : AV) (k : Nat) : setCells cs off v (k + 1) = (setCells cs off v k).set (off + k) (v.cellAt k) := rfl
theorem r_mkAgg_d (l : List AV) : mkAgg l = (match allD l with | some ds => .d (.agg ds) | none => .agg l) := rfl
theorem r_allD_nil : allD [] = some [] := rfl
theorem r_allD_d (x : D) (r : List AV) : allD (.d x :: r) = (allD r).map (x :: ·) := rfl
theorem r_allD_osl (i o k : Nat) (r : List AV) : allD (.osl i o k :: r) = none := rfl
theorem r_allD_nils (r : List AV) : allD (.nils :: r) = none := rfl
theorem r_allD_ptr (i o : Nat) (r : List AV) : allD (.ptr i o :: r) = none := rfl

theorem r_cell (x : D) (i : Nat) : x.cell i = x.cells.getD i default := rfl
theorem r_sub (x : D) (o k : Nat) : x.sub o k = .agg ((x.cells.drop o).take k) := rfl
theorem r_binD_eql (k k' : IntKind) (a b : Int) : binD .eql (.int k a) (.int k' b) = .bool (a == b) := rfl
theorem r_binD_neq (k k' : IntKind) (a b : Int) : binD .neq (.int k a) (.int k' b) = .bool (a != b) := rfl
theorem r_binD_lss (k k' : IntKind) (a b : Int) : binD .lss (.int k a) (.int k' b) = .bool (decide (a < b)) := rfl
theorem r_binD_leq (k k' : IntKind) (a b : Int) : binD .leq (.int k a) (.int k' b) = .bool (decide (a ≤ b)) := rfl
theorem r_binD_gtr (k k' : IntKind) (a b : Int) : binD .gtr (.int k a) (.int k' b) = .bool (decide (b < a)) := rfl
theorem r_binD_geq (k k' : IntKind) (a b : Int) : binD .geq (.int k a) (.int k' b) = .bool (decide (b ≤ a)) := rfl
theorem r_binD_add (k k' : IntKind) (a b : Int) : binD .add (.int k a) (.int k' b) = .int k (k.wrap (a + b)) := rfl
theorem r_binD_sub (k k' : IntKind) (a b : Int) : binD .sub (.int k a) (.int k' b) = .int k (k.wrap (a - b)) := rfl
theorem r_binD_mul (k k' : IntKind) (a b : Int) : binD .mul (.int k a) (.int k' b) = .int k (k.wrap (a * b)) := rfl
theorem r_binD_quo (k k' : IntKind) (a b : Int) : binD .quo (.int k a) (.int k' b) = .int k (k.wrap (a.tdiv b)) := rfl
theorem r_binD_rem (k k' : IntKind) (a b : Int) : binD .rem (.int k a) (.int k' b) = .int k (a.tmod b) := rfl
theorem r_binD_shl (k k' : IntKind) (a b : Int) : binD .shl (.int k a) (.int k' b) = intBin .shl k a b := rfl
theorem r_binD_shr (k k' : IntKind) (a b : Int) : binD .shr (.int k a) (.int k' b) = intBin .shr k a b := rfl
theorem r_binD_and (k k' : IntKind) (a b : Int) : binD .and (.int k a) (.int k' b) = intBin .and k a b := rfl
theorem r_binD_or (k k' : IntKind) (a b : Int) : binD .or (.int k a) (.int k' b) = intBin .or k a b := rfl
theorem r_binD_xor (k k' : IntKind) (a b : Int) : binD .xor (.int k a) (.int k' b) = intBin .xor k a b := rfl
theorem r_ib_eql (k k' : IntKind) (b : Int) : intBinOk .eql k k' b = (k = k') := rfl
theorem r_ib_neq (k k' : IntKind) (b : Int) : intBinOk .neq k k' b = (k = k') := rfl
theorem r_ib_lss (k k' : IntKind) (b : Int) : intBinOk .lss k k' b = (k = k') := rfl
theorem r_ib_leq (k k' : IntKind) (b : Int) : intBinOk .leq k k' b = (k = k') := rfl
theorem r_ib_gtr (k k' : IntKind) (b : Int) : intBinOk .gtr k k' b = (k = k') := rfl
theorem r_ib_geq (k k' : IntKind) (b : Int) : intBinOk .geq k k' b = (k = k') := rfl
theorem r_ib_add (k k' : IntKind) (b : Int) : intBinOk .add k k' b = (k = k') := rfl
theorem r_ib_sub (k k' : IntKind) (b : Int) : intBinOk .sub k k' b = (k = k') := rfl
theorem r_ib_mul (k k' : IntKind) (b : Int) : intBinOk .mul k k' b = (k = k') := rfl
theorem r_ib_quo (k k' : IntKind) (b : Int) : intBinOk .quo k k' b = (k = k' ∧ b ≠ 0) := rfl
theorem r_ib_rem (k k' : IntKind) (b : Int) : intBinOk .rem k k' b = (k = k' ∧ b ≠ 0) := rfl
theorem r_ib_shl (k k' : IntKind) (b : Int) : intBinOk .shl k k' b = (0 ≤ b) := rfl
theorem r_ib_shr (k k' : IntKind) (b : Int) : intBinOk .shr k k' b = (0 ≤ b) := rfl
theorem r_sb_add (a b : List UInt8) : strBin .add a b = .str (a ++ b) := rfl
theorem r_sb_eql (a b : List UInt8) : strBin .eql a b = .bool (a == b) := rfl
theorem r_sb_neq (a b : List UInt8) : strBin .neq a b = .bool (!(a == b)) := rfl
theorem r_sb_lss (a b : List UInt8) : strBin .lss a b = .bool (Op.bytesLess a b) := rfl
theorem r_sb_gtr (a b : List UInt8) : strBin .gtr a b = .bool (!(Op.bytesLess a b || a == b)) := rfl
theorem r_sb_leq (a b : List UInt8) : strBin .leq a b = .bool (Op.bytesLess a b || a == b) := rfl
theorem r_sb_geq (a b : List UInt8) : strBin .geq a b = .bool (!(Op.bytesLess a b)) := rfl
theorem r_sbo_add (a b : List UInt8) : strBinOk .add a b = (((a.length + b.length : Nat) : Int) ≤ 9223372036854775807) := rfl
theorem r_sbo_eql (a b : List UInt8) : strBinOk .eql a b = True := rfl
theorem r_sbo_neq (a b : List UInt8) : strBinOk .neq a b = True := rfl
theorem r_sbo_lss (a b : List UInt8) : strBinOk .lss a b = True := rfl
theorem r_sbo_gtr (a b : List UInt8) : strBinOk .gtr a b = True := rfl
theorem r_sbo_leq (a b : List UInt8) : strBinOk .leq a b = True := rfl
theorem r_sbo_geq (a b : List UInt8) : strBinOk .geq a b = True := rfl
theorem r_ok_alloc' (t : TypeId) : opOk P Gl σ env (.alloc t) = ((zeroV P t).storable = true) := by
  have e : opOk P Gl σ env (.alloc t) = (match tzero P t with | some z => (constV z).storable = true | none => False) := rfl
  rw [e]; unfold zeroV; cases tzero P t <;> simp [AV.storable]
theorem r_s_alloc' (t : TypeId) (h : (zeroV P t).storable = true) : opS P Gl σ env (.alloc t) = σ ++ [.box (zeroV P t).ncells (zeroV P t)] := by
  have e : opS P Gl σ env (.alloc t) = (match tzero P t with | some z => σ ++ [.box (constV z).ncells (constV z)] | none => σ) := rfl
  rw [e]; unfold zeroV at h ⊢
  cases hz : tzero P t with
  | none => simp only [hz] at h; cases h
  | some z => rfl
theorem r_isD1_d (x : D) : isD1 σ (.d x) = true := rfl
theorem r_isD1_nils : isD1 σ .nils = true := rfl
theorem r_isD1_osl (i o k : Nat) : isD1 σ (.osl i o k) = (blkAt σ i).isArr := rfl
theorem r_toD1_d (x : D) : toD1 σ (.d x) = x := rfl
theorem r_toD1_nils : toD1 σ .nils = .sl [] := rfl
theorem r_toD1_osl (i o k : Nat) : toD1 σ (.osl i o k) = .sl (((blkAt σ i).xs.drop o).take k) := rfl
theorem r_ref1_d (x : D) : ref1 (.d x) = [] := rfl
theorem r_ref1_nils : ref1 .nils = [] := rfl
theorem r_ref1_osl (i o k : Nat) : ref1 (.osl i o k) = [i] := rfl
/-! the state written anew -/
theorem r_renE_nil (ρ : List Nat) : renE [] ρ σ env = [] := rfl
theorem r_renE_cons (t : Nat) (l ρ : List Nat) : renE (t :: l) ρ σ env = (t, renV ρ σ (getE env t)) :: renE l ρ σ env := rfl
theorem r_renS_nil : renS [] σ = [] := rfl
theorem r_renV_d (ρ : List Nat) (x : D) : renV ρ σ (.d x) = .d x := rfl
theorem r_renV_nils (ρ : List Nat) : renV ρ σ .nils = .nils := rfl
theorem r_renV_eptr (ρ : List Nat) (es : Nat) (xs : List D) (i off : Nat) : renV ρ σ (.eptr es xs i off) = .eptr es xs i off := rfl
theorem r_renV_ptr (ρ : List Nat) (i o : Nat) : renV ρ σ (.ptr i o) = (match idxIn ρ i with | some j => .ptr j o | none => .undef) := rfl
theorem r_renV_aptr (ρ : List Nat) (id i o : Nat) : renV ρ σ (.aptr id i o) = (match idxIn ρ id with | some j => .aptr j i o | none => .undef) := rfl
theorem r_renV_osl (ρ : List Nat) (id o k : Nat) : renV ρ σ (.osl id o k) = (match idxIn ρ id with | some j => .osl j o k | none => if (blkAt σ id).isArr = true ∧ (blkAt σ id).own = false then .d (.sl (((blkAt σ id).xs.drop o).take k)) else .undef) := rfl
theorem r_idxIn_nil (i : Nat) : idxIn [] i = none := rfl
theorem r_idxIn_cons (r : Nat) (l : List Nat) (i : Nat) : idxIn (r :: l) i = if r = i then some 0 else (idxIn l i).map (· + 1) := by
  unfold idxIn; rw [List.findIdx?_cons]; by_cases h : r = i <;> simp [h]
/-! what a function hands back -/
theorem r_retK_ret {m : Nat} {rs : List ResultVar} {R : AV → Sto → Prop} : retK P m rs R .ret env σ = (resOk P env σ rs ∧ ∃ r' s', WeakR m (resV P env σ rs) σ r' s' ∧ R r' s') := rfl
theorem r_retK_normal {m : Nat} {rs : List ResultVar} {R : AV → Sto → Prop} : retK P m rs R .normal env σ = (resOk P env σ rs ∧ ∃ r' s', WeakR m (resV P env σ rs) σ r' s' ∧ R r' s') := rfl
theorem r_resOk_nil : resOk P env σ [] = True := rfl
theorem r_resOk_cons (r : ResultVar) (rs : List ResultVar) : resOk P env σ (r :: rs) = (resOk1 P env σ r ∧ resOk P env σ rs) := rfl
theorem r_resOk1_tmp (t : Nat) : resOk1 P env σ (.tmp t) = ((getE env t).vg = true) := rfl
theorem r_resOk1_cell (t : Nat) (ty : TypeId) : resOk1 P env σ (.cell t ty) = (match tkind P ty, tsz P ty with | some g, some k => ldOk σ g k (getE env t) | _, _ => False) := rfl
theorem r_resV1_tmp (t : Nat) : resV1 P env σ (.tmp t) = (getE env t).un := rfl
theorem r_resV1_cell (t : Nat) (ty : TypeId) : resV1 P env σ (.cell t ty) = (match tkind P ty, tsz P ty with | some g, some k => ldV σ g k (getE env t) | _, _ => .undef) := rfl
theorem r_resV_one (r : ResultVar) : resV P env σ [r] = resV1 P env σ r := rfl
theorem r_resV_nil : resV P env σ [] = .tup [] := rfl
theorem r_resV_two (r1 r2 : ResultVar) (rs : List ResultVar) : resV P env σ (r1 :: r2 :: rs) = .tup ((r1 :: r2 :: rs).map (resV1 P env σ)) := rfl
end

/-- all of them -/
theorem dRules : type_of% (And.intro (And.intro @r_getE_cons (And.intro @r_getE_nil (And.intro @r_putE_some (And.intro @r_putE_none (And.intro @r_dst_some (And.intro @r_dst_none (And.intro @r_evG_tmp (And.intro @r_evG_const (And.intro @r_evG_func (And.intro @r_evG_global (And.intro @r_evU_tmp (And.intro @r_evU_const (And.intro @r_evU_func (And.intro @r_evU_global (And.intro @r_un_d (And.intro @r_un_nils (And.intro @r_un_agg (And.intro @r_un_ptr (And.intro @r_un_eptr (And.intro @r_un_aptr (And.intro @r_un_osl (And.intro @r_un_fn (And.intro @r_un_tup (And.intro @r_un_iff (And.intro @r_vg_d (And.intro @r_vg_nils (And.intro @r_vg_agg (And.intro @r_vg_ptr (And.intro @r_vg_eptr (And.intro @r_vg_aptr (And.intro @r_vg_osl (And.intro @r_vg_fn (And.intro @r_vg_tup (And.intro @r_vg_iff (And.intro @r_constV_int (And.intro @r_constV_bool (And.intro @r_constV_str (And.intro @r_constV_nils (And.intro @r_gdL_nil (@r_gdL_cons)))))))))))))))))))))))))))))))))))))))) (And.intro (And.intro @r_truth (And.intro @r_isBoolv (And.intro @r_isIntv (And.intro @r_num (And.intro @r_slotBool_d (And.intro @r_slotBool_iff (And.intro @r_slotTest_d (And.intro @r_slotTest_iff (And.intro @r_gSlot (And.intro @r_gSlot_succ (And.intro @r_pickV_bool (And.intro @r_pickV_int (And.intro @r_blk0 (And.intro @r_blkS (And.intro @r_boxN (And.intro @r_boxV (And.intro @r_isBox (And.intro @r_isOwnArr (And.intro @r_isArr (And.intro @r_isArr' (And.intro @r_es (And.intro @r_es' (And.intro @r_xs (And.intro @r_xs' (And.intro @r_own (And.intro @r_own' (And.intro @r_ldOk_ptr (And.intro @r_ldOk_eptr (And.intro @r_ldOk_aptr (And.intro @r_ldV_ptr (And.intro @r_ldV_eptr (And.intro @r_ldV_aptr (And.intro @r_partOk (And.intro @r_partV_d (And.intro @r_partV (And.intro @r_partD (And.intro @r_subV_d (And.intro @r_cellAt_d (And.intro @r_cellAt_agg (@r_stOk_ptr)))))))))))))))))))))))))))))))))))))))) (And.intro (And.intro @r_stOk_aptr (And.intro @r_stS_ptr (And.intro @r_stS_aptr (And.intro @r_putV (And.intro @r_isAgg_d (And.intro @r_isAgg_agg (And.intro @r_isAgg_osl (And.intro @r_isAgg_nils (And.intro @r_storable_d (And.intro @r_storable_agg (And.intro @r_storable_osl (And.intro @r_storable_nils (And.intro @r_ncells_d (And.intro @r_ncells_agg (And.intro @r_ncells_osl (And.intro @r_ncells_nils (And.intro @r_isD_d (And.intro @r_isD_nils (And.intro @r_isD_osl (And.intro @r_isD_agg (And.intro @r_toD_d (And.intro @r_toD_nils (And.intro @r_toD_osl (And.intro @r_toD_agg (And.intro @r_refs_d (And.intro @r_refs_nils (And.intro @r_refs_osl (And.intro @r_refs_agg (And.intro @r_freezeL_nil (And.intro @r_freezeL_cons (And.intro @r_freeze0 (And.intro @r_freezeS (And.intro @r_frozen (And.intro @r_isPtr_ptr (And.intro @r_isPtr_eptr (And.intro @r_isPtr_aptr (And.intro @r_shift_ptr (And.intro @r_shift_eptr (And.intro @r_shift_aptr (@r_notNil_ptr)))))))))))))))))))))))))))))))))))))))) (And.intro (And.intro @r_notNil_eptr (And.intro @r_notNil_aptr (And.intro @r_notNil_fn (And.intro @r_cells_agg (And.intro @r_DisAgg_agg (And.intro @r_DisAgg_int (And.intro @r_DisAgg_bool (And.intro @r_DisAgg_str (And.intro @r_DisAgg_sl (And.intro @r_cells_int (And.intro @r_cells_bool (And.intro @r_cells_str (And.intro @r_cells_sl (And.intro @r_putAt (And.intro @r_binV_int (And.intro @r_binV_bool (And.intro @r_binV_str (And.intro @r_binV_agg (And.intro @r_binV_nils (And.intro @r_binV_raw (And.intro @r_nilBin_eql (And.intro @r_nilBin_neq (And.intro @r_nilBin_any (And.intro @r_isNilV_nils (And.intro @r_isNilV_raw (And.intro @r_isNilV_nil (And.intro @r_isNilV_cons (And.intro @r_isNilV_osl (And.intro @r_isNilV_ptr (And.intro @r_isNilV_eptr (And.intro @r_isNilV_aptr (And.intro @r_isNilV_mapr (And.intro @r_binOk_int (And.intro @r_binOk_bool (And.intro @r_binOk_str (And.intro @r_binOk_agg (And.intro @r_binOk_nils_nils (And.intro @r_binOk_nils_sl (And.intro @r_binOk_nils_osl (@r_binOk_ptr_ptr)))))))))))))))))))))))))))))))))))))))) (And.intro (And.intro @r_binOk_ptr_eptr (And.intro @r_binOk_ptr_aptr (And.intro @r_binOk_ptr_nil (And.intro @r_binOk_map_mapr (And.intro @r_binOk_map_nil (And.intro @r_un_mapr (And.intro @r_un_anyb (And.intro @r_vg_mapr (And.intro @r_vg_anyb (And.intro @r_storable_mapr (And.intro @r_storable_ptr (And.intro @r_storable_fn (And.intro @r_ncells_mapr (And.intro @r_ncells_ptr (And.intro @r_ncells_fn (And.intro @r_isAgg_mapr (And.intro @r_isAgg_ptr (And.intro @r_isAgg_fn (And.intro @r_cellAt_mapr (And.intro @r_cellAt_ptr (And.intro @r_cellAt_osl (And.intro @r_cellAt_nils (And.intro @r_cellAt_fn (And.intro @r_allD_mapr (And.intro @r_allD_fn (And.intro @r_isMap (And.intro @r_mk (And.intro @r_mf (And.intro @r_keyOf_int (And.intro @r_keyOf_str (And.intro @r_keyOk_int (And.intro @r_keyOk_str (And.intro @r_lkOk_mapr (And.intro @r_lkOk_nil (And.intro @r_lkF_mapr (And.intro @r_lkF_nil (And.intro @r_lkV_t (And.intro @r_lkV_f (And.intro @r_muOk (@r_muS)))))))))))))))))))))))))))))))))))))))) (And.intro (And.intro @r_mdS (And.intro @r_ok_lookup (And.intro @r_v_lookup (And.intro @r_s_lookup (And.intro @r_ok_mapUpdate (And.intro @r_v_mapUpdate (And.intro @r_s_mapUpdate (And.intro @r_ok_insert (And.intro @r_v_insert (And.intro @r_s_insert (And.intro @r_ok_makeMap (And.intro @r_v_makeMap (And.intro @r_s_makeMap (And.intro @r_bi_delete_ok (And.intro @r_bi_delete_v (And.intro @r_bi_delete_s (And.intro @r_delOk (And.intro @r_bi_clear_ok (And.intro @r_bi_clear_v (And.intro @r_bi_clear_s (And.intro @r_clOk (And.intro @r_clX (And.intro @r_clS (And.intro @r_renV_mapr (And.intro @r_renV_anyb (And.intro @r_renB_map (And.intro @r_getD_some (And.intro @r_getD_none (And.intro @r_binD_str (And.intro @r_binD_bool_eql (And.intro @r_binD_bool_neq (And.intro @r_binD_agg_eql (And.intro @r_binD_agg_neq (And.intro @r_binOkD_int (And.intro @r_binOkD_str (And.intro @r_binOkD_bool_eql (And.intro @r_binOkD_bool_neq (And.intro @r_binOkD_agg_eql (And.intro @r_binOkD_agg_neq (@r_unV_not)))))))))))))))))))))))))))))))))))))))) (And.intro (And.intro @r_unV_neg (And.intro @r_unOk_not (And.intro @r_unOk_neg (And.intro @r_len_sl (And.intro @r_len_str (And.intro @r_len_osl (And.intro @r_len_nils (And.intro @r_hasLen_sl (And.intro @r_hasLen_str (And.intro @r_hasLen_osl (And.intro @r_hasLen_nils (And.intro @r_elems_sl (And.intro @r_elems_osl (And.intro @r_elems_nils (And.intro @r_idxOk_sl (And.intro @r_idxOk_osl (And.intro @r_idxV_sl (And.intro @r_idxV_osl (And.intro @r_biLen_ok (And.intro @r_biLen_V (And.intro @r_biLen_S (And.intro @r_biApp_ok (And.intro @r_biApp_V (And.intro @r_biApp_S (And.intro @r_biMin_ok (And.intro @r_biMin_V (And.intro @r_biMin_S (And.intro @r_biMax_ok (And.intro @r_biMax_V (And.intro @r_biMax_S (And.intro @r_minmaxOk (And.intro @r_minV (And.intro @r_maxV (And.intro @r_minL_nil (And.intro @r_maxL_nil (And.intro @r_minL_cons (And.intro @r_maxL_cons (And.intro @r_tupAt (And.intro @r_tupLen (@r_ok_move)))))))))))))))))))))))))))))))))))))))) (And.intro (And.intro @r_v_move (And.intro @r_s_move (And.intro @r_ok_assign (And.intro @r_v_assign (And.intro @r_s_assign (And.intro @r_v_alloc (And.intro @r_ok_box (And.intro @r_v_box (And.intro @r_s_box (And.intro @r_ok_build (And.intro @r_v_build (And.intro @r_s_build (And.intro @r_ok_buildSlice0 (And.intro @r_v_buildSlice0 (And.intro @r_s_buildSlice0 (And.intro @r_ok_buildSlice (And.intro @r_v_buildSlice (And.intro @r_s_buildSlice (And.intro @r_ok_load (And.intro @r_v_load (And.intro @r_s_load (And.intro @r_ok_store (And.intro @r_v_store (And.intro @r_s_store (And.intro @r_ok_nilCheck (And.intro @r_v_nilCheck (And.intro @r_s_nilCheck (And.intro @r_ok_binOp (And.intro @r_v_binOp (And.intro @r_s_binOp (And.intro @r_ok_unOp (And.intro @r_v_unOp (And.intro @r_s_unOp (And.intro @r_ok_convert (And.intro @r_v_convert (And.intro @r_s_convert (And.intro @r_ok_makeSlice (And.intro @r_v_makeSlice (And.intro @r_s_makeSlice (@r_ok_slice00)))))))))))))))))))))))))))))))))))))))) (And.intro (And.intro @r_v_slice00 (And.intro @r_s_slice00 (And.intro @r_ok_slice10 (And.intro @r_v_slice10 (And.intro @r_s_slice10 (And.intro @r_ok_slice01 (And.intro @r_v_slice01 (And.intro @r_s_slice01 (And.intro @r_ok_slice11 (And.intro @r_v_slice11 (And.intro @r_s_slice11 (And.intro @r_ok_fieldAddr (And.intro @r_v_fieldAddr (And.intro @r_s_fieldAddr (And.intro @r_ok_field (And.intro @r_v_field (And.intro @r_s_field (And.intro @r_ok_indexAddr (And.intro @r_v_indexAddr (And.intro @r_s_indexAddr (And.intro @r_ok_index (And.intro @r_v_index (And.intro @r_s_index (And.intro @r_ok_extract (And.intro @r_v_extract (And.intro @r_s_extract (And.intro @r_partsU (And.intro @r_fillA_nil (And.intro @r_fillA_cons (And.intro @r_fillOk_nil (And.intro @r_fillOk_cons (And.intro @r_setCells0 (And.intro @r_setCellsS (And.intro @r_mkAgg_d (And.intro @r_allD_nil (And.intro @r_allD_d (And.intro @r_allD_osl (And.intro @r_allD_nils (And.intro @r_allD_ptr (@r_cell)))))))))))))))))))))))))))))))))))))))) (And.intro (And.intro @r_sub (And.intro @r_binD_eql (And.intro @r_binD_neq (And.intro @r_binD_lss (And.intro @r_binD_leq (And.intro @r_binD_gtr (And.intro @r_binD_geq (And.intro @r_binD_add (And.intro @r_binD_sub (And.intro @r_binD_mul (And.intro @r_binD_quo (And.intro @r_binD_rem (And.intro @r_binD_shl (And.intro @r_binD_shr (And.intro @r_binD_and (And.intro @r_binD_or (And.intro @r_binD_xor (And.intro @r_ib_eql (And.intro @r_ib_neq (And.intro @r_ib_lss (And.intro @r_ib_leq (And.intro @r_ib_gtr (And.intro @r_ib_geq (And.intro @r_ib_add (And.intro @r_ib_sub (And.intro @r_ib_mul (And.intro @r_ib_quo (And.intro @r_ib_rem (And.intro @r_ib_shl (And.intro @r_ib_shr (And.intro @r_sb_add (And.intro @r_sb_eql (And.intro @r_sb_neq (And.intro @r_sb_lss (And.intro @r_sb_gtr (And.intro @r_sb_leq (And.intro @r_sb_geq (And.intro @r_sbo_add (And.intro @r_sbo_eql (@r_sbo_neq)))))))))))))))))))))))))))))))))))))))) (And.intro @r_sbo_lss (And.intro @r_sbo_gtr (And.intro @r_sbo_leq (And.intro @r_sbo_geq (And.intro @r_ok_alloc' (And.intro @r_s_alloc' (And.intro @r_isD1_d (And.intro @r_isD1_nils (And.intro @r_isD1_osl (And.intro @r_toD1_d (And.intro @r_toD1_nils (And.intro @r_toD1_osl (And.intro @r_ref1_d (And.intro @r_ref1_nils (And.intro @r_ref1_osl (And.intro @r_renE_nil (And.intro @r_renE_cons (And.intro @r_renS_nil (And.intro @r_renV_d (And.intro @r_renV_nils (And.intro @r_renV_eptr (And.intro @r_renV_ptr (And.intro @r_renV_aptr (And.intro @r_renV_osl (And.intro @r_idxIn_nil (And.intro @r_idxIn_cons (And.intro @r_retK_ret (And.intro @r_retK_normal (And.intro @r_resOk_nil (And.intro @r_resOk_cons (And.intro @r_resOk1_tmp (And.intro @r_resOk1_cell (And.intro @r_resV1_tmp (And.intro @r_resV1_cell (And.intro @r_resV_one (And.intro @r_resV_nil (@r_resV_two))))))))))))))))))))))))))))))))))))))))))))))) := And.intro (And.intro @r_getE_cons (And.intro @r_getE_nil (And.intro @r_putE_some (And.intro @r_putE_none (And.intro @r_dst_some (And.intro @r_dst_none (And.intro @r_evG_tmp (And.intro @r_evG_const (And.intro @r_evG_func (And.intro @r_evG_global (And.intro @r_evU_tmp (And.intro @r_evU_const (And.intro @r_evU_func (And.intro @r_evU_global (And.intro @r_un_d (And.intro @r_un_nils (And.intro @r_un_agg (And.intro @r_un_ptr (And.intro @r_un_eptr (And.intro @r_un_aptr (And.intro @r_un_osl (And.intro @r_un_fn (And.intro @r_un_tup (And.intro @r_un_iff (And.intro @r_vg_d (And.intro @r_vg_nils (And.intro @r_vg_agg (And.intro @r_vg_ptr (And.intro @r_vg_eptr (And.intro @r_vg_aptr (And.intro @r_vg_osl (And.intro @r_vg_fn (And.intro @r_vg_tup (And.intro @r_vg_iff (And.intro @r_constV_int (And.intro @r_constV_bool (And.intro @r_constV_str (And.intro @r_constV_nils (And.intro @r_gdL_nil (@r_gdL_cons)))))))))))))))))))))))))))))))))))))))) (And.intro (And.intro @r_truth (And.intro @r_isBoolv (And.intro @r_isIntv (And.intro @r_num (And.intro @r_slotBool_d (And.intro @r_slotBool_iff (And.intro @r_slotTest_d (And.intro @r_slotTest_iff (And.intro @r_gSlot (And.intro @r_gSlot_succ (And.intro @r_pickV_bool (And.intro @r_pickV_int (And.intro @r_blk0 (And.intro @r_blkS (And.intro @r_boxN (And.intro @r_boxV (And.intro @r_isBox (And.intro @r_isOwnArr (And.intro @r_isArr (And.intro @r_isArr' (And.intro @r_es (And.intro @r_es' (And.intro @r_xs (And.intro @r_xs' (And.intro @r_own (And.intro @r_own' (And.intro @r_ldOk_ptr (And.intro @r_ldOk_eptr (And.intro @r_ldOk_aptr (And.intro @r_ldV_ptr (And.intro @r_ldV_eptr (And.intro @r_ldV_aptr (And.intro @r_partOk (And.intro @r_partV_d (And.intro @r_partV (And.intro @r_partD (And.intro @r_subV_d (And.intro @r_cellAt_d (And.intro @r_cellAt_agg (@r_stOk_ptr)))))))))))))))))))))))))))))))))))))))) (And.intro (And.intro @r_stOk_aptr (And.intro @r_stS_ptr (And.intro @r_stS_aptr (And.intro @r_putV (And.intro @r_isAgg_d (And.intro @r_isAgg_agg (And.intro @r_isAgg_osl (And.intro @r_isAgg_nils (And.intro @r_storable_d (And.intro @r_storable_agg (And.intro @r_storable_osl (And.intro @r_storable_nils (And.intro @r_ncells_d (And.intro @r_ncells_agg (And.intro @r_ncells_osl (And.intro @r_ncells_nils (And.intro @r_isD_d (And.intro @r_isD_nils (And.intro @r_isD_osl (And.intro @r_isD_agg (And.intro @r_toD_d (And.intro @r_toD_nils (And.intro @r_toD_osl (And.intro @r_toD_agg (And.intro @r_refs_d (And.intro @r_refs_nils (And.intro @r_refs_osl (And.intro @r_refs_agg (And.intro @r_freezeL_nil (And.intro @r_freezeL_cons (And.intro @r_freeze0 (And.intro @r_freezeS (And.intro @r_frozen (And.intro @r_isPtr_ptr (And.intro @r_isPtr_eptr (And.intro @r_isPtr_aptr (And.intro @r_shift_ptr (And.intro @r_shift_eptr (And.intro @r_shift_aptr (@r_notNil_ptr)))))))))))))))))))))))))))))))))))))))) (And.intro (And.intro @r_notNil_eptr (And.intro @r_notNil_aptr (And.intro @r_notNil_fn (And.intro @r_cells_agg (And.intro @r_DisAgg_agg (And.intro @r_DisAgg_int (And.intro @r_DisAgg_bool (And.intro @r_DisAgg_str (And.intro @r_DisAgg_sl (And.intro @r_cells_int (And.intro @r_cells_bool (And.intro @r_cells_str (And.intro @r_cells_sl (And.intro @r_putAt (And.intro @r_binV_int (And.intro @r_binV_bool (And.intro @r_binV_str (And.intro @r_binV_agg (And.intro @r_binV_nils (And.intro @r_binV_raw (And.intro @r_nilBin_eql (And.intro @r_nilBin_neq (And.intro @r_nilBin_any (And.intro @r_isNilV_nils (And.intro @r_isNilV_raw (And.intro @r_isNilV_nil (And.intro @r_isNilV_cons (And.intro @r_isNilV_osl (And.intro @r_isNilV_ptr (And.intro @r_isNilV_eptr (And.intro @r_isNilV_aptr (And.intro @r_isNilV_mapr (And.intro @r_binOk_int (And.intro @r_binOk_bool (And.intro @r_binOk_str (And.intro @r_binOk_agg (And.intro @r_binOk_nils_nils (And.intro @r_binOk_nils_sl (And.intro @r_binOk_nils_osl (@r_binOk_ptr_ptr)))))))))))))))))))))))))))))))))))))))) (And.intro (And.intro @r_binOk_ptr_eptr (And.intro @r_binOk_ptr_aptr (And.intro @r_binOk_ptr_nil (And.intro @r_binOk_map_mapr (And.intro @r_binOk_map_nil (And.intro @r_un_mapr (And.intro @r_un_anyb (And.intro @r_vg_mapr (And.intro @r_vg_anyb (And.intro @r_storable_mapr (And.intro @r_storable_ptr (And.intro @r_storable_fn (And.intro @r_ncells_mapr (And.intro @r_ncells_ptr (And.intro @r_ncells_fn (And.intro @r_isAgg_mapr (And.intro @r_isAgg_ptr (And.intro @r_isAgg_fn (And.intro @r_cellAt_mapr (And.intro @r_cellAt_ptr (And.intro @r_cellAt_osl (And.intro @r_cellAt_nils (And.intro @r_cellAt_fn (And.intro @r_allD_mapr (And.intro @r_allD_fn (And.intro @r_isMap (And.intro @r_mk (And.intro @r_mf (And.intro @r_keyOf_int (And.intro @r_keyOf_str (And.intro @r_keyOk_int (And.intro @r_keyOk_str (And.intro @r_lkOk_mapr (And.intro @r_lkOk_nil (And.intro @r_lkF_mapr (And.intro @r_lkF_nil (And.intro @r_lkV_t (And.intro @r_lkV_f (And.intro @r_muOk (@r_muS)))))))))))))))))))))))))))))))))))))))) (And.intro (And.intro @r_mdS (And.intro @r_ok_lookup (And.intro @r_v_lookup (And.intro @r_s_lookup (And.intro @r_ok_mapUpdate (And.intro @r_v_mapUpdate (And.intro @r_s_mapUpdate (And.intro @r_ok_insert (And.intro @r_v_insert (And.intro @r_s_insert (And.intro @r_ok_makeMap (And.intro @r_v_makeMap (And.intro @r_s_makeMap (And.intro @r_bi_delete_ok (And.intro @r_bi_delete_v (And.intro @r_bi_delete_s (And.intro @r_delOk (And.intro @r_bi_clear_ok (And.intro @r_bi_clear_v (And.intro @r_bi_clear_s (And.intro @r_clOk (And.intro @r_clX (And.intro @r_clS (And.intro @r_renV_mapr (And.intro @r_renV_anyb (And.intro @r_renB_map (And.intro @r_getD_some (And.intro @r_getD_none (And.intro @r_binD_str (And.intro @r_binD_bool_eql (And.intro @r_binD_bool_neq (And.intro @r_binD_agg_eql (And.intro @r_binD_agg_neq (And.intro @r_binOkD_int (And.intro @r_binOkD_str (And.intro @r_binOkD_bool_eql (And.intro @r_binOkD_bool_neq (And.intro @r_binOkD_agg_eql (And.intro @r_binOkD_agg_neq (@r_unV_not)))))))))))))))))))))))))))))))))))))))) (And.intro (And.intro @r_unV_neg (And.intro @r_unOk_not (And.intro @r_unOk_neg (And.intro @r_len_sl (And.intro @r_len_str (And.intro @r_len_osl (And.intro @r_len_nils (And.intro @r_hasLen_sl (And.intro @r_hasLen_str (And.intro @r_hasLen_osl (And.intro @r_hasLen_nils (And.intro @r_elems_sl (And.intro @r_elems_osl (And.intro @r_elems_nils (And.intro @r_idxOk_sl (And.intro @r_idxOk_osl (And.intro @r_idxV_sl (And.intro @r_idxV_osl (And.intro @r_biLen_ok (And.intro @r_biLen_V (And.intro @r_biLen_S (And.intro @r_biApp_ok (And.intro @r_biApp_V (And.intro @r_biApp_S (And.intro @r_biMin_ok (And.intro @r_biMin_V (And.intro @r_biMin_S (And.intro @r_biMax_ok (And.intro @r_biMax_V (And.intro @r_biMax_S (And.intro @r_minmaxOk (And.intro @r_minV (And.intro @r_maxV (And.intro @r_minL_nil (And.intro @r_maxL_nil (And.intro @r_minL_cons (And.intro @r_maxL_cons (And.intro @r_tupAt (And.intro @r_tupLen (@r_ok_move)))))))))))))))))))))))))))))))))))))))) (And.intro (And.intro @r_v_move (And.intro @r_s_move (And.intro @r_ok_assign (And.intro @r_v_assign (And.intro @r_s_assign (And.intro @r_v_alloc (And.intro @r_ok_box (And.intro @r_v_box (And.intro @r_s_box (And.intro @r_ok_build (And.intro @r_v_build (And.intro @r_s_build (And.intro @r_ok_buildSlice0 (And.intro @r_v_buildSlice0 (And.intro @r_s_buildSlice0 (And.intro @r_ok_buildSlice (And.intro @r_v_buildSlice (And.intro @r_s_buildSlice (And.intro @r_ok_load (And.intro @r_v_load (And.intro @r_s_load (And.intro @r_ok_store (And.intro @r_v_store (And.intro @r_s_store (And.intro @r_ok_nilCheck (And.intro @r_v_nilCheck (And.intro @r_s_nilCheck (And.intro @r_ok_binOp (And.intro @r_v_binOp (And.intro @r_s_binOp (And.intro @r_ok_unOp (And.intro @r_v_unOp (And.intro @r_s_unOp (And.intro @r_ok_convert (And.intro @r_v_convert (And.intro @r_s_convert (And.intro @r_ok_makeSlice (And.intro @r_v_makeSlice (And.intro @r_s_makeSlice (@r_ok_slice00)))))))))))))))))))))))))))))))))))))))) (And.intro (And.intro @r_v_slice00 (And.intro @r_s_slice00 (And.intro @r_ok_slice10 (And.intro @r_v_slice10 (And.intro @r_s_slice10 (And.intro @r_ok_slice01 (And.intro @r_v_slice01 (And.intro @r_s_slice01 (And.intro @r_ok_slice11 (And.intro @r_v_slice11 (And.intro @r_s_slice11 (And.intro @r_ok_fieldAddr (And.intro @r_v_fieldAddr (And.intro @r_s_fieldAddr (And.intro @r_ok_field (And.intro @r_v_field (And.intro @r_s_field (And.intro @r_ok_indexAddr (And.intro @r_v_indexAddr (And.intro @r_s_indexAddr (And.intro @r_ok_index (And.intro @r_v_index (And.intro @r_s_index (And.intro @r_ok_extract (And.intro @r_v_extract (And.intro @r_s_extract (And.intro @r_partsU (And.intro @r_fillA_nil (And.intro @r_fillA_cons (And.intro @r_fillOk_nil (And.intro @r_fillOk_cons (And.intro @r_setCells0 (And.intro @r_setCellsS (And.intro @r_mkAgg_d (And.intro @r_allD_nil (And.intro @r_allD_d (And.intro @r_allD_osl (And.intro @r_allD_nils (And.intro @r_allD_ptr (@r_cell)))))))))))))))))))))))))))))))))))))))) (And.intro (And.intro @r_sub (And.intro @r_binD_eql (And.intro @r_binD_neq (And.intro @r_binD_lss (And.intro @r_binD_leq (And.intro @r_binD_gtr (And.intro @r_binD_geq (And.intro @r_binD_add (And.intro @r_binD_sub (And.intro @r_binD_mul (And.intro @r_binD_quo (And.intro @r_binD_rem (And.intro @r_binD_shl (And.intro @r_binD_shr (And.intro @r_binD_and (And.intro @r_binD_or (And.intro @r_binD_xor (And.intro @r_ib_eql (And.intro @r_ib_neq (And.intro @r_ib_lss (And.intro @r_ib_leq (And.intro @r_ib_gtr (And.intro @r_ib_geq (And.intro @r_ib_add (And.intro @r_ib_sub (And.intro @r_ib_mul (And.intro @r_ib_quo (And.intro @r_ib_rem (And.intro @r_ib_shl (And.intro @r_ib_shr (And.intro @r_sb_add (And.intro @r_sb_eql (And.intro @r_sb_neq (And.intro @r_sb_lss (And.intro @r_sb_gtr (And.intro @r_sb_leq (And.intro @r_sb_geq (And.intro @r_sbo_add (And.intro @r_sbo_eql (@r_sbo_neq)))))))))))))))))))))))))))))))))))))))) (And.intro @r_sbo_lss (And.intro @r_sbo_gtr (And.intro @r_sbo_leq (And.intro @r_sbo_geq (And.intro @r_ok_alloc' (And.intro @r_s_alloc' (And.intro @r_isD1_d (And.intro @r_isD1_nils (And.intro @r_isD1_osl (And.intro @r_toD1_d (And.intro @r_toD1_nils (And.intro @r_toD1_osl (And.intro @r_ref1_d (And.intro @r_ref1_nils (And.intro @r_ref1_osl (And.intro @r_renE_nil (And.intro @r_renE_cons (And.intro @r_renS_nil (And.intro @r_renV_d (And.intro @r_renV_nils (And.intro @r_renV_eptr (And.intro @r_renV_ptr (And.intro @r_renV_aptr (And.intro @r_renV_osl (And.intro @r_idxIn_nil (And.intro @r_idxIn_cons (And.intro @r_retK_ret (And.intro @r_retK_normal (And.intro @r_resOk_nil (And.intro @r_resOk_cons (And.intro @r_resOk1_tmp (And.intro @r_resOk1_cell (And.intro @r_resV1_tmp (And.intro @r_resV1_cell (And.intro @r_resV_one (And.intro @r_resV_nil (@r_resV_two))))))))))))))))))))))))))))))))))))))))))))))

end Go.AM
