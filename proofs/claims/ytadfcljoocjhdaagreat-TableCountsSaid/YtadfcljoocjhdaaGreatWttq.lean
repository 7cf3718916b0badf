/- A part of the proof: contracts of functions of this seat, and lemmas. No condition beyond those stated. -/
import Derived.Test.YtadfcljoocjhdaaGreatWti
import Derived.Test.YtadfcljoocjhdaaGreatWttb
set_option linter.unusedVariables false
set_option linter.unusedSimpArgs false
set_option linter.unusedSectionVars false
set_option linter.unnecessarySimpa false
set_option maxRecDepth 100000
namespace Go.Proofs
open Go.AM
namespace YtadfcljoocjhdaaGreat
def rowsOf {α : Type} [Inhabited α] (f : Nat → α → List ValT) (l : List α) (n : Nat) : List (List ValT) := (List.range n).map fun i => f i (l.getD i default)
theorem rowsOf_step {α : Type} [Inhabited α] (f : Nat → α → List ValT) (l : List α) (n : Nat) : rowsOf f l (n + 1) = rowsOf f l n ++ [f n (l.getD n default)] := by
 rw [rowsOf, List.range_succ, List.map_append]; rfl
theorem rowsOf_len {α : Type} [Inhabited α] (f : Nat → α → List ValT) (l : List α) (n : Nat) : (rowsOf f l n).length = n := by simp [rowsOf]
theorem rowsOf_mem {α : Type} [Inhabited α] {f : Nat → α → List ValT} {l : List α} {r : List ValT} (h : r ∈ rowsOf f l l.length) : ∃ i, i < l.length ∧ r = f i (l.getD i default) := by
 obtain ⟨i, h1, rfl⟩ := List.mem_map.1 h
 exact ⟨i, List.mem_range.1 h1, rfl⟩
def leafV (x : SampleT) : ValT := if 0 < x.stack.length then txtV (x.stack.getD (x.stack.length - 1) default) else ⟨0, 0, []⟩
def thrCols : List ColT := [⟨[105, 100], 2⟩, ⟨[110, 97, 109, 101], 3⟩]
def thrRow (i : Nat) (x : ThreadT) : List ValT := [numV x.id, txtV x.name]
def thrTab (t : TraceT) : TabT := ⟨thrCols, rowsOf thrRow t.threads t.threads.length⟩
def sliCols : List ColT := [⟨[105, 100], 2⟩, ⟨[116, 104, 114, 101, 97, 100], 2⟩, ⟨[112, 97, 114, 101, 110, 116], 2⟩, ⟨[100, 101, 112, 116, 104], 2⟩, ⟨[110, 97, 109, 101], 3⟩, ⟨[102, 114, 111, 109], 2⟩, ⟨[116, 111], 2⟩, ⟨[115, 101, 108, 102], 2⟩, ⟨[111, 112, 101, 110], 1⟩]
def sliRow (i : Nat) (x : SliceT) : List ValT := [numV (i : Int), numV x.thread, othV x.parent, numV x.depth, txtV x.name, numV x.lo, numV x.hi, numV x.self, truV x.open_]
def sliTab (t : TraceT) : TabT := ⟨sliCols, rowsOf sliRow t.slices t.slices.length⟩
def staCols : List ColT := [⟨[116, 104, 114, 101, 97, 100], 2⟩, ⟨[115, 116, 97, 116, 101], 2⟩, ⟨[102, 114, 111, 109], 2⟩, ⟨[116, 111], 2⟩, ⟨[99, 112, 117], 2⟩, ⟨[111, 110], 2⟩, ⟨[98, 121], 2⟩]
def staRow (i : Nat) (x : StateT) : List ValT := [numV x.thread, numV x.state, numV x.lo, numV x.hi, othV x.cpu, othV x.on_, othV x.by_]
def staTab (t : TraceT) : TabT := ⟨staCols, rowsOf staRow t.states t.states.length⟩
def floCols : List ColT := [⟨[105, 100], 2⟩, ⟨[115, 111, 117, 114, 99, 101], 2⟩, ⟨[116, 97, 114, 103, 101, 116], 2⟩, ⟨[102, 114, 111, 109], 2⟩, ⟨[116, 111], 2⟩]
def floRow (i : Nat) (x : FlowT) : List ValT := [numV x.id, numV x.ft, numV x.tt, numV x.send, numV x.recv]
def floTab (t : TraceT) : TabT := ⟨floCols, rowsOf floRow t.flows t.flows.length⟩
def samCols : List ColT := [⟨[97, 116], 2⟩, ⟨[116, 104, 114, 101, 97, 100], 2⟩, ⟨[119, 101, 105, 103, 104, 116], 2⟩, ⟨[108, 101, 97, 102], 3⟩, ⟨[100, 101, 112, 116, 104], 2⟩]
def samRow (i : Nat) (x : SampleT) : List ValT := [numV x.at_, numV x.thread, numV x.weight, leafV x, numV (x.stack.length : Int)]
def samTab (t : TraceT) : TabT := ⟨samCols, rowsOf samRow t.samples t.samples.length⟩
def couCols : List ColT := [⟨[110, 97, 109, 101], 3⟩, ⟨[97, 116], 2⟩, ⟨[118, 97, 108, 117, 101], 2⟩]
def couRow (i : Nat) (x : StepT) : List ValT := [txtV x.name, numV x.at_, numV x.value]
def couTab (t : TraceT) : TabT := ⟨couCols, rowsOf couRow t.steps t.steps.length⟩
def bloCols : List ColT := [⟨[105, 100], 2⟩, ⟨[116, 104, 114, 101, 97, 100], 2⟩, ⟨[115, 105, 122, 101], 2⟩, ⟨[102, 114, 111, 109], 2⟩, ⟨[116, 111], 2⟩, ⟨[108, 105, 118, 101], 1⟩]
def bloRow (i : Nat) (x : BlockT) : List ValT := [numV x.id, numV x.thread, numV x.size, numV x.lo, numV x.hi, truV x.live]
def bloTab (t : TraceT) : TabT := ⟨bloCols, rowsOf bloRow t.blocks t.blocks.length⟩
def losCols : List ColT := [⟨[116, 104, 114, 101, 97, 100], 2⟩, ⟨[102, 114, 111, 109], 2⟩, ⟨[116, 111], 2⟩, ⟨[99, 111, 117, 110, 116], 2⟩]
def losRow (i : Nat) (x : LossT) : List ValT := [numV x.thread, numV x.lo, numV x.hi, numV x.count]
def losTab (t : TraceT) : TabT := ⟨losCols, rowsOf losRow t.lost t.lost.length⟩
def ofL (t : TraceT) : List NamT := [⟨[116, 104, 114, 101, 97, 100, 115], thrTab t⟩, ⟨[115, 108, 105, 99, 101, 115], sliTab t⟩, ⟨[115, 116, 97, 116, 101, 115], staTab t⟩, ⟨[102, 108, 111, 119, 115], floTab t⟩, ⟨[115, 97, 109, 112, 108, 101, 115], samTab t⟩, ⟨[99, 111, 117, 110, 116, 101, 114, 115], couTab t⟩, ⟨[98, 108, 111, 99, 107, 115], bloTab t⟩, ⟨[108, 111, 115, 115, 101, 115], losTab t⟩]
def placeF (d : List NamT) (nm : List UInt8) : Int := idxF (fun x : NamT => x.name == nm) d
def hasN (d : List NamT) (nm : List UInt8) : Bool := d.any fun x => x.name == nm
def findF (d : List NamT) (nm : List UInt8) : TabT := if hasN d nm = true then (d.getD (placeF d nm).toNat default).tab else ⟨[], []⟩
def dbE (d : List NamT) (i : Nat) : Int :=
 if nameF (d.getD i default).name ≠ 0 then nameF (d.getD i default).name
 else if hasN (d.take i) (d.getD i default).name = true then 4 else checkF (d.getD i default).tab
def checkAllF (d : List NamT) : Int := if decide (32 < (d.length : Int)) = true then 7 else firstErr (dbE d) d.length
theorem dbE_ok {d : List NamT} {i : Nat} (h1 : nameF (d.getD i default).name = 0) (h2 : hasN (d.take i) (d.getD i default).name = false) (h3 : checkF (d.getD i default).tab = 0) : dbE d i = 0 := by
 rw [dbE, if_neg (by rw [h1]; simp), if_neg (by rw [h2]; simp), h3]
theorem nn {a b : Int} (h : ¬ a ≠ b) : a = b := Decidable.not_not.1 h
theorem v_num {n : Int} (h : inB n = true) : valE 2 (numV n) = 0 := by simp [valE, numV, h]
theorem v_oth {n : Int} (h : inB n = true) : valE 2 (othV n) = 0 := by
 unfold othV; split
 ·rfl
 ·exact v_num h
theorem v_txt {s : List UInt8} (h : s.length ≤ 200) : valE 3 (txtV s) = 0 := by
 have h' : decide (200 < (s.length : Int)) = false := decide_eq_false (by omega)
 simp [valE, txtV, h']
 exact decide_eq_false (by omega)
theorem v_tru (b : Bool) : valE 1 (truV b) = 0 := by cases b <;> rfl
theorem v_null (k : Int) : valE k ⟨0, 0, []⟩ = 0 := by simp [valE]
theorem name_len {s : List UInt8} (h : nameF s = 0) : s.length ≤ 200 := by
 unfold nameF at h
 split at h
 ·rename_i h1
  simp only [nameB, Bool.and_eq_true, decide_eq_true_eq] at h1
  omega
 ·cases h
theorem inB_of {n : Int} (h1 : -1 ≤ n) (h2 : n ≤ 1000000000000000) : inB n = true := by
 simp only [inB, Bool.and_eq_true, decide_eq_true_eq]; omega
theorem row_ok {cols : List ColT} {row : List ValT} (h : row.length = cols.length) (h2 : ∀ p ∈ List.zip cols row, valE p.1.ty p.2 = 0) : rowE cols row = 0 := by
 rw [rowE, if_neg (by rw [h]; simp)]
 refine firstErr_all fun k hk => ?_
 rw [celE]
 have hk2 : k < row.length := by omega
 have hm : (cols.getD k default, row.getD k default) ∈ List.zip cols row := by
  have : (cols.getD k default, row.getD k default) = (List.zip cols row)[k]'(by simp; omega) := by simp [hk, hk2]
  rw [this]; exact List.getElem_mem _
 exact h2 _ hm
theorem tab_ok {cols : List ColT} {rows : List (List ValT)} (h1 : cols.length ≤ 32) (h2 : rows.length ≤ 20000) (h3 : firstErr (colE cols) cols.length = 0) (h4 : ∀ r ∈ rows, rowE cols r = 0) : checkF ⟨cols, rows⟩ = 0 := by
 have e1 : ¬ (32 < (cols.length : Int)) := by omega
 have e2 : ¬ (20000 < (rows.length : Int)) := by omega
 rw [checkF, if_neg (by simp only [e1, e2, decide_false, Bool.or_false]; simp), if_neg (by rw [h3]; simp)]
 exact firstErr_all fun k hk => h4 _ (mem_getD hk)
theorem known0 {α : Type} {e : Int} {has : Int → Bool} {g : α → Int} {l : List α} (h : knownF e has g l = 0) : e = 0 := by
 unfold knownF at h; split at h
 ·rename_i h1; exact absurd h h1
 ·rename_i h1; simpa using h1
structure TraceOk (t : TraceT) : Prop where
 thr : firstErr (thrAt t.threads) t.threads.length = 0
 sli : sliceF t.slices = 0
 sta : stateF t.threads t.states = 0
 flo : flowF t.flows = 0
 sam : sampleF t.samples = 0
 ste : stepF t.steps = 0
 blo : bkF t.blocks = 0
 los : lossF (hasT t.threads) t.lost = 0
theorem trace_ok {t : TraceT} (h : traceF t = 0) : TraceOk t := by
 unfold traceF at h; split at h
 ·rename_i h1; exact absurd h h1
 rename_i h1
 have h1 : tablesF t = 0 := by simpa using h1
 unfold tablesF at h1
 split at h1
 ·rename_i g; exact absurd h1 g
 rename_i g1; split at h1
 ·rename_i g; exact absurd h1 g
 rename_i g2; split at h1
 ·rename_i g; exact absurd h1 g
 rename_i g3; split at h1
 ·rename_i g; exact absurd h1 g
 rename_i g4; split at h1
 ·rename_i g; exact absurd h1 g
 rename_i g5; split at h1
 ·rename_i g; exact absurd h1 g
 rename_i g6; split at h1
 ·rename_i g; exact absurd h1 g
 rename_i g7
 refine ⟨?_, known0 (nn g2), nn g3, known0 (known0 (nn g4)), known0 (nn g5), nn g6, known0 (nn g7), h1⟩
 have g1 := nn g1
 unfold threadsF at g1; split at g1
 ·cases g1
 ·exact g1
theorem thrErr0 {x : ThreadT} (h : thrErr x = 0) : 0 ≤ x.id ∧ x.id ≤ 1000000000000000 ∧ nameF x.name = 0 := by
 unfold thrErr at h; split at h
 ·cases h
 ·rename_i g
  simp only [Bool.or_eq_true, decide_eq_true_eq, not_or] at g
  exact ⟨by omega, by omega, h⟩
theorem thr_at {l : List ThreadT} (h : firstErr (thrAt l) l.length = 0) {i : Nat} (hi : i < l.length) : thrErr (l.getD i default) = 0 := by
 have h := firstErr_zero h i hi
 unfold thrAt at h
 split at h
 ·rename_i g; exact absurd h g
 ·rename_i g; exact nn g
theorem thr_in {l : List ThreadT} (h : firstErr (thrAt l) l.length = 0) {x : ThreadT} (hx : x ∈ l) : thrErr x = 0 := by
 obtain ⟨i, hi, e⟩ := List.mem_iff_getElem.1 hx
 have := thr_at h hi
 rw [show l.getD i default = x by simp [hi, e]] at this
 exact this
theorem okSpan_b {a b : Int} (h : okSpan a b = true) : 0 ≤ a ∧ a < b ∧ b ≤ 1000000000000 := by
 simp only [okSpan, Bool.and_eq_true, decide_eq_true_eq] at h
 omega
theorem thr_ok {t : TraceT} (h : TraceOk t) : ∀ r ∈ (thrTab t).rows, rowE thrCols r = 0 := fun r hr => by
 obtain ⟨i, hi, rfl⟩ := rowsOf_mem hr
 obtain ⟨h1, h2, h3⟩ := thrErr0 (thr_at h.thr hi)
 refine row_ok rfl ?_
 unfold thrCols thrRow
 simp only [List.zip_cons_cons, List.zip_nil_left, List.zip_nil_right, List.forall_mem_cons]
 exact ⟨v_num (inB_of (by omega) h2), v_txt (name_len h3), fun _ h => by cases h⟩
theorem slAt0 {l : List SliceT} {k : Nat} (h : slAt l k = 0) : 0 ≤ (l.getD k default).thread ∧ (l.getD k default).thread ≤ 1000000000000000 ∧ okSpan (l.getD k default).lo (l.getD k default).hi = true ∧ nameF (l.getD k default).name = 0 := by
 unfold slAt at h; split at h
 ·cases h
 rename_i g1; split at h
 ·rename_i g; exact absurd h g
 rename_i g2
 simp only [Bool.or_eq_true, decide_eq_true_eq, not_or, Bool.not_eq_true', Bool.not_eq_false] at g1
 exact ⟨by omega, by omega, g1.2, nn g2⟩
theorem slice0 {l : List SliceT} (h : sliceF l = 0) : firstErr (slAt l) l.length = 0 ∧ nestF l = true ∧ apartF l = true := by
 unfold sliceF at h; split at h
 ·rename_i g; exact absurd h g
 rename_i g; split at h
 ·rename_i g2
  rw [Bool.and_eq_true] at g2
  exact ⟨nn g, g2⟩
 ·cases h
theorem depth_le {l : List SliceT} (h : nestF l = true) (hb : l.length < 1000000) : ∀ (i : Nat), i < l.length → 0 ≤ (l.getD i default).depth ∧ (l.getD i default).depth ≤ i := by
 intro i
 induction i using Nat.strongRecOn with
 | _ i ih =>
  intro hi
  have hn := nestF_at h hi
  have hp := nest_parent hn
  unfold nestAt at hn; simp only at hn
  split at hn
  ·cases hn
  split at hn
  ·have : (l.getD i default).depth = 0 := by simpa using hn
   omega
  ·rename_i h1 h2
   have hlt : (l.getD i default).parent.toNat < i := by omega
   have hh := ih _ hlt (by omega)
   have hd : (l.getD i default).depth = IntKind.i64.wrap ((l.getD (l.getD i default).parent.toNat default).depth + 1) := by
    simp only [Bool.not_eq_true', Bool.or_eq_false_iff, bne_eq_false_iff_eq] at hn; exact hn.2
   rw [@a_wrap ((l.getD (l.getD i default).parent.toNat default).depth + 1) (by omega)] at hd
   omega
theorem self_le {l : List SliceT} (hsp : ∀ k, k < l.length → okSpan (l.getD k default).lo (l.getD k default).hi = true) {i : Nat} (hi : i < l.length) : ∀ j, j ≤ l.length → j ≤ 900 → -(j : Int) * 1000000000000 ≤ selfF l i j ∧ selfF l i j ≤ 1000000000000 := by
 intro j
 induction j with
 | zero =>
  intro _ _
  have := okSpan_b (hsp i hi)
  rw [selfF, @a_wrap ((l.getD i default).hi - (l.getD i default).lo) (by omega)]
  omega
 | succ j ih =>
  intro h1 h2
  obtain ⟨a1, a2⟩ := ih (by omega) (by omega)
  have := okSpan_b (hsp j (by omega))
  rw [selfF]
  split
  ·rw [@a_wrap ((l.getD j default).hi - (l.getD j default).lo) (by omega), @a_wrap (selfF l i j - ((l.getD j default).hi - (l.getD j default).lo)) (by omega)]
   omega
  ·omega
theorem sli_ok {t : TraceT} (h : TraceOk t) (hs : t.slices.length ≤ 40) : ∀ r ∈ (sliTab t).rows, rowE sliCols r = 0 := fun r hr => by
 obtain ⟨i, hi, rfl⟩ := rowsOf_mem hr
 obtain ⟨h1, h2, h3⟩ := slice0 h.sli
 have ha := firstErr_zero h1
 obtain ⟨b1, b2, b3, b4⟩ := slAt0 (ha i hi)
 have b3 := okSpan_b b3
 have hd := depth_le h2 (by omega) i hi
 have hp := nest_parent (nestF_at h2 hi)
 have hsf := self_le (fun k hk => (slAt0 (ha k hk)).2.2.1) hi _ (Nat.le_refl _) (by omega)
 have hse : (t.slices.getD i default).self = selfF t.slices i t.slices.length := by
  unfold apartF at h3
  have := List.all_eq_true.1 h3 i (List.mem_range.2 hi)
  unfold apartAt at this
  rw [Bool.and_eq_true] at this
  exact beq_iff_eq.1 this.2
 generalize selfF t.slices i t.slices.length = sf at *
 refine row_ok rfl ?_
 unfold sliCols sliRow
 simp only [List.zip_cons_cons, List.zip_nil_left, List.zip_nil_right, List.forall_mem_cons]
 exact ⟨v_num (inB_of (by omega) (by omega)), v_num (inB_of (by omega) b2), v_oth (inB_of (by omega) (by omega)), v_num (inB_of (by omega) (by omega)), v_txt (name_len b4), v_num (inB_of (by omega) (by omega)), v_num (inB_of (by omega) (by omega)),
  v_num (by simp only [inB, Bool.and_eq_true, decide_eq_true_eq]; omega), v_tru _, fun _ h => by cases h⟩
theorem dist_mem (l : List ThreadT) : ∀ (acc : List Int), ∀ y ∈ l.foldl (fun out x => if out.any (fun y => x.id == y) = true then out else out ++ [x.id]) acc, y ∈ acc ∨ ∃ x ∈ l, x.id = y := by
 induction l with
 | nil => intro acc y hy; exact .inl hy
 | cons a l ih =>
  intro acc y hy
  rw [List.foldl_cons] at hy
  rcases ih _ y hy with h | ⟨x, hx, e⟩
  ·split at h
   ·exact .inl h
   ·rcases List.mem_append.1 h with h | h
    ·exact .inl h
    ·exact .inr ⟨a, List.mem_cons_self, (List.mem_singleton.1 h).symm⟩
  ·exact .inr ⟨x, List.mem_cons_of_mem _ hx, e⟩
theorem idx_in {ths : List ThreadT} {n : Int} (h : ¬ idxI (distF ths) n < 0) : ∃ x ∈ ths, x.id = n := by
 have h1 : (distF ths).any (fun y => n == y) = true := by rw [← idxF_any]; exact decide_eq_true (by unfold idxI at h; omega)
 obtain ⟨y, hy, e⟩ := List.any_eq_true.1 h1
 have e := beq_iff_eq.1 e
 subst e
 rcases dist_mem ths [] n hy with h | h
 ·cases h
 ·exact h
theorem field_b {s : StateT} (h : fieldsB s = true) : 0 ≤ s.state ∧ s.state ≤ 5 ∧ -1 ≤ s.cpu ∧ s.cpu ≤ 1000 ∧ -1 ≤ s.on_ ∧ s.on_ ≤ 1000000000000000 ∧ -1 ≤ s.by_ ∧ s.by_ ≤ 1000000000000000 := by
 unfold fieldsB at h
 by_cases e1 : (s.state == 4) = true <;> by_cases e2 : (s.state == 2) = true <;> simp only [e1, e2, if_true, if_false, reduceIte, Bool.and_eq_true, Bool.or_eq_true, decide_eq_true_eq, beq_iff_eq, Bool.false_eq_true] at h <;> omega
theorem sta_ok {t : TraceT} (h : TraceOk t) : ∀ r ∈ (staTab t).rows, rowE staCols r = 0 := fun r hr => by
 obtain ⟨i, hi, rfl⟩ := rowsOf_mem hr
 have hu : firstErr (uAt (distF t.threads) t.states) t.states.length = 0 := by
  have := h.sta
  unfold stateF at this; split at this
  ·rename_i g; exact absurd this g
  ·rename_i g; exact nn g
 have hu := firstErr_zero hu i hi
 unfold uAt at hu
 split at hu
 ·cases hu
 rename_i g1; split at hu
 ·cases hu
 rename_i g2; split at hu
 ·cases hu
 rename_i g3
 obtain ⟨x, hx, e⟩ := idx_in g1
 have hx := thrErr0 (thr_in h.thr hx)
 rw [e] at hx
 have g2 := okSpan_b ((Bool.not_eq_false _).mp g2)
 have g3 := field_b ((Bool.not_eq_false _).mp g3)
 refine row_ok rfl ?_
 unfold staCols staRow
 simp only [List.zip_cons_cons, List.zip_nil_left, List.zip_nil_right, List.forall_mem_cons]
 exact ⟨v_num (inB_of (by omega) (by omega)), v_num (inB_of (by omega) (by omega)), v_num (inB_of (by omega) (by omega)), v_num (inB_of (by omega) (by omega)), v_oth (inB_of (by omega) (by omega)), v_oth (inB_of (by omega) (by omega)), v_oth (inB_of (by omega) (by omega)), fun _ h => by cases h⟩
theorem flo_ok {t : TraceT} (h : TraceOk t) : ∀ r ∈ (floTab t).rows, rowE floCols r = 0 := fun r hr => by
 obtain ⟨i, hi, rfl⟩ := rowsOf_mem hr
 have h := firstErr_zero h.flo i hi
 unfold flAt at h; split at h
 ·cases h
 rename_i g
 simp only [badFl, badN, Bool.or_eq_true, decide_eq_true_eq, not_or] at g
 refine row_ok rfl ?_
 unfold floCols floRow
 simp only [List.zip_cons_cons, List.zip_nil_left, List.zip_nil_right, List.forall_mem_cons]
 exact ⟨v_num (inB_of (by omega) (by omega)), v_num (inB_of (by omega) (by omega)), v_num (inB_of (by omega) (by omega)), v_num (inB_of (by omega) (by omega)), v_num (inB_of (by omega) (by omega)), fun _ h => by cases h⟩
theorem frames0 {l : List (List UInt8)} (h : framesF l = 0) : l.length ≤ 32 ∧ ∀ s ∈ l, nameF s = 0 := by
 unfold framesF at h; split at h
 ·cases h
 rename_i g; split at h
 ·rename_i g2
  exact ⟨by omega, fun s hs => nameF_t (List.all_eq_true.1 g2 s hs)⟩
 ·cases h
theorem sam_ok {t : TraceT} (h : TraceOk t) : ∀ r ∈ (samTab t).rows, rowE samCols r = 0 := fun r hr => by
 obtain ⟨i, hi, rfl⟩ := rowsOf_mem hr
 have h := firstErr_zero h.sam i hi
 unfold smAt at h; split at h
 ·cases h
 rename_i g1; split at h
 ·rename_i g; exact absurd h g
 rename_i g2
 have g2 := frames0 (nn g2)
 simp only [goodSm, Bool.not_eq_false, Bool.and_eq_true, decide_eq_true_eq] at g1
 have hl : valE 3 (leafV (t.samples.getD i default)) = 0 := by
  unfold leafV; split
  ·exact v_txt (name_len (g2.2 _ (mem_getD (by omega))))
  ·exact v_null 3
 refine row_ok rfl ?_
 unfold samCols samRow
 simp only [List.zip_cons_cons, List.zip_nil_left, List.zip_nil_right, List.forall_mem_cons]
 exact ⟨v_num (inB_of (by omega) (by omega)), v_num (inB_of (by omega) (by omega)), v_num (inB_of (by omega) (by omega)), hl, v_num (inB_of (by omega) (by omega)), fun _ h => by cases h⟩
theorem cou_ok {t : TraceT} (h : TraceOk t) : ∀ r ∈ (couTab t).rows, rowE couCols r = 0 := fun r hr => by
 obtain ⟨i, hi, rfl⟩ := rowsOf_mem hr
 have h := firstErr_zero h.ste i hi
 unfold stAt at h; split at h
 ·rename_i g; exact absurd h g
 rename_i g1; split at h
 ·cases h
 rename_i g2
 simp only [badS, Bool.or_eq_true, decide_eq_true_eq, not_or, Bool.not_eq_true', Bool.not_eq_false] at g2
 refine row_ok rfl ?_
 unfold couCols couRow
 simp only [List.zip_cons_cons, List.zip_nil_left, List.zip_nil_right, List.forall_mem_cons]
 exact ⟨v_txt (name_len (nn g1)), v_num (inB_of (by omega) (by omega)), v_num g2.2, fun _ h => by cases h⟩
theorem blo_ok {t : TraceT} (h : TraceOk t) : ∀ r ∈ (bloTab t).rows, rowE bloCols r = 0 := fun r hr => by
 obtain ⟨i, hi, rfl⟩ := rowsOf_mem hr
 have h := firstErr_zero h.blo i hi
 unfold bkAt at h; split at h
 ·cases h
 rename_i g
 simp only [badB, Bool.or_eq_true, decide_eq_true_eq, not_or, Bool.not_eq_true', Bool.and_eq_false_iff, decide_eq_false_iff_not] at g
 refine row_ok rfl ?_
 unfold bloCols bloRow
 simp only [List.zip_cons_cons, List.zip_nil_left, List.zip_nil_right, List.forall_mem_cons]
 exact ⟨v_num (inB_of (by omega) (by omega)), v_num (inB_of (by omega) (by omega)), v_num (inB_of (by omega) (by omega)), v_num (inB_of (by omega) (by omega)), v_num (inB_of (by omega) (by omega)), v_tru _, fun _ h => by cases h⟩
theorem los_ok {t : TraceT} (h : TraceOk t) : ∀ r ∈ (losTab t).rows, rowE losCols r = 0 := fun r hr => by
 obtain ⟨i, hi, rfl⟩ := rowsOf_mem hr
 have hh := h.thr
 have h := firstErr_zero h.los i hi
 unfold lossAt at h; split at h
 ·cases h
 rename_i g1; split at h
 ·cases h
 rename_i g2
 have g1 : hasT t.threads (t.lost.getD i default).thread = true := by simpa using g1
 obtain ⟨x, hx, e⟩ := List.any_eq_true.1 g1
 have e := beq_iff_eq.1 e
 have hx := thrErr0 (thr_in hh hx)
 rw [e] at hx
 simp only [Bool.or_eq_true, decide_eq_true_eq, not_or, Bool.not_eq_true', Bool.not_eq_false] at g2
 have g3 := okSpan_b g2.1.1
 refine row_ok rfl ?_
 unfold losCols losRow
 simp only [List.zip_cons_cons, List.zip_nil_left, List.zip_nil_right, List.forall_mem_cons]
 exact ⟨v_num (inB_of (by omega) (by omega)), v_num (inB_of (by omega) (by omega)), v_num (inB_of (by omega) (by omega)), v_num (inB_of (by omega) (by omega)), fun _ h => by cases h⟩
structure TraceT.Small (t : TraceT) : Prop where
 thr : t.threads.length ≤ 70
 sli : t.slices.length ≤ 40
 sta : t.states.length ≤ 40
 flo : t.flows.length ≤ 40
 sam : t.samples.length ≤ 40
 ste : t.steps.length ≤ 40
 blo : t.blocks.length ≤ 40
 los : t.lost.length ≤ 40
theorem ofL_ok {t : TraceT} (h : traceF t = 0) (hs : t.Small) : checkAllF (ofL t) = 0 := by
 have ht := trace_ok h
 rw [checkAllF, if_neg (by show ¬ (decide (32 < ((8 : Nat) : Int)) = true); decide)]
 refine firstErr_all fun k hk => ?_
 match k, hk with
 | 0, _ => exact dbE_ok rfl rfl (tab_ok (by decide) (by rw [rowsOf_len]; have := hs.thr; omega) (by decide +kernel) (thr_ok ht))
 | 1, _ => exact dbE_ok rfl rfl (tab_ok (by decide) (by rw [rowsOf_len]; have := hs.sli; omega) (by decide +kernel) (sli_ok ht hs.sli))
 | 2, _ => exact dbE_ok rfl rfl (tab_ok (by decide) (by rw [rowsOf_len]; have := hs.sta; omega) (by decide +kernel) (sta_ok ht))
 | 3, _ => exact dbE_ok rfl rfl (tab_ok (by decide) (by rw [rowsOf_len]; have := hs.flo; omega) (by decide +kernel) (flo_ok ht))
 | 4, _ => exact dbE_ok rfl rfl (tab_ok (by decide) (by rw [rowsOf_len]; have := hs.sam; omega) (by decide +kernel) (sam_ok ht))
 | 5, _ => exact dbE_ok rfl rfl (tab_ok (by decide) (by rw [rowsOf_len]; have := hs.ste; omega) (by decide +kernel) (cou_ok ht))
 | 6, _ => exact dbE_ok rfl rfl (tab_ok (by decide) (by rw [rowsOf_len]; have := hs.blo; omega) (by decide +kernel) (blo_ok ht))
 | 7, _ => exact dbE_ok rfl rfl (tab_ok (by decide) (by rw [rowsOf_len]; have := hs.los; omega) (by decide +kernel) (los_ok ht))
 | n + 8, h => exact absurd h (by show ¬ n + 8 < 8; omega)
end YtadfcljoocjhdaaGreat
end Go.Proofs
