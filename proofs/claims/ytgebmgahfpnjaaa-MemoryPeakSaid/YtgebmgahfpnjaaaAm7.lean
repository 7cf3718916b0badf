/-
  The operations run, fourth part: arithmetic, comparisons.
-/
import Derived.Test.YtgebmgahfpnjaaaAm6
import Derived.Laws.StructEq
set_option linter.unnecessarySimpa false
set_option linter.unusedSectionVars false
set_option linter.unusedSimpArgs false
set_option linter.unusedVariables false
namespace Go.AM

variable {P : Program} {w : World} {I : Im} {μ : Pos} {σ : Sto}

theorem run_eqGuard_plain (op : BinOp) (t : TypeId) (x y : Operand) (a b : Value) (ha : (match a with | .agg _ | .nilIface => false | _ => true) = true) : (eqGuard op t x y a b).run P w = .ok () w := by
  unfold eqGuard
  cases op <;> cases a <;> simp_all

theorem int_bin (op : BinOp) (t : TypeId) (k k' : IntKind) (a b : Int) (ho : intBinOk op k k' b) :
    ∃ u, (binOp op t (.int k a) (.int k' b)).run P w = .ok u w ∧ RepD w I u (intBin op k a b) := by
  cases op <;> simp only [intBinOk] at ho
  case shl => exact ⟨.int k (k.wrap (a * 2 ^ (min b.toNat k.bits))), by simp [binOp, Op.shift, Int.not_lt.2 ho], .int _ _⟩
  case shr => exact ⟨.int k (a.fdiv (2 ^ (min b.toNat k.bits))), by simp [binOp, Op.shift, Int.not_lt.2 ho], .int _ _⟩
  case quo => obtain ⟨rfl, hb⟩ := ho; exact ⟨.int k (k.wrap (a.tdiv b)), by simp [binOp, Op.intDiv, hb], .int _ _⟩
  case rem => obtain ⟨rfl, hb⟩ := ho; exact ⟨.int k (a.tmod b), by simp [binOp, Op.intDiv, hb], .int _ _⟩
  all_goals subst ho
  case add => exact ⟨.int k (k.wrap (a + b)), by simp [binOp, Op.intArith], .int _ _⟩
  case sub => exact ⟨.int k (k.wrap (a - b)), by simp [binOp, Op.intArith], .int _ _⟩
  case mul => exact ⟨.int k (k.wrap (a * b)), by simp [binOp, Op.intArith], .int _ _⟩
  case and => exact ⟨.int k (k.wrap ((BitVec.ofInt k.bits a) &&& (BitVec.ofInt k.bits b)).toNat), by simp only [binOp, ne_eq, not_true_eq_false, if_false, Op.intBits, Sem.run_pure], .int _ _⟩
  case or => exact ⟨.int k (k.wrap ((BitVec.ofInt k.bits a) ||| (BitVec.ofInt k.bits b)).toNat), by simp only [binOp, ne_eq, not_true_eq_false, if_false, Op.intBits, Sem.run_pure], .int _ _⟩
  case xor => exact ⟨.int k (k.wrap ((BitVec.ofInt k.bits a) ^^^ (BitVec.ofInt k.bits b)).toNat), by simp only [binOp, ne_eq, not_true_eq_false, if_false, Op.intBits, Sem.run_pure], .int _ _⟩
  case andNot => exact ⟨.int k (k.wrap ((BitVec.ofInt k.bits a) &&& ~~~(BitVec.ofInt k.bits b)).toNat), by simp only [binOp, ne_eq, not_true_eq_false, if_false, Op.intBits, Sem.run_pure], .int _ _⟩
  case eql => exact ⟨.bool (a == b), by simp [binOp, Op.intCmp], .bool _⟩
  case neq => exact ⟨.bool (a != b), by simp [binOp, Op.intCmp], .bool _⟩
  case lss => exact ⟨.bool (decide (a < b)), by simp [binOp, Op.intCmp], .bool _⟩
  case leq => exact ⟨.bool (decide (a ≤ b)), by simp [binOp, Op.intCmp], .bool _⟩
  case gtr => exact ⟨.bool (decide (a > b)), by simp [binOp, Op.intCmp], .bool _⟩
  case geq => exact ⟨.bool (decide (a ≥ b)), by simp [binOp, Op.intCmp], .bool _⟩

theorem toList_mk (s : List UInt8) : (⟨s.toArray⟩ : ByteArray).toList = s := by
  rw [ByteArray.toList_eq]

theorem str_bin (op : BinOp) (t : TypeId) (a b : List UInt8) (ho : strBinOk op a b) :
    ∃ u, (binOp op t (.string ⟨a.toArray⟩) (.string ⟨b.toArray⟩)).run P w = .ok u w ∧ RepD w I u (strBin op a b) := by
  have e : binOp op t (.string ⟨a.toArray⟩) (.string ⟨b.toArray⟩) = Op.stringOp op ⟨a.toArray⟩ ⟨b.toArray⟩ := by cases op <;> rfl
  rw [e]
  cases op <;> simp only [strBinOk] at ho
  case add =>
    have hs : ¬ (((⟨a.toArray⟩ : ByteArray).size + (⟨b.toArray⟩ : ByteArray).size : Nat) : Int) > IntKind.i64.max := by
      have : IntKind.i64.max = 9223372036854775807 := by decide
      rw [this]
      show ¬ (((a.toArray.size + b.toArray.size : Nat) : Int)) > _
      simp only [List.size_toArray]
      omega
    refine ⟨.string (⟨a.toArray⟩ ++ ⟨b.toArray⟩), by simp only [Op.stringOp, if_neg hs, Sem.run_pure], ?_⟩
    have e2 : ((⟨a.toArray⟩ : ByteArray) ++ ⟨b.toArray⟩) = ⟨(a ++ b).toArray⟩ := by
      apply ByteArray.ext
      simp [ByteArray.data_append]
    rw [e2]; exact .str _
  all_goals first
    | exact ho.elim
    | exact ⟨.bool _, by simp only [Op.stringOp, Sem.run_pure, toList_mk], .bool _⟩

theorem flatFields_spec {fs : List Field} : ∀ {o : Nat} {l : List Nat}, flatFields P fs o = some l → ∀ {xs ys : List Value} {as bs : List D},
    (∀ (i : Nat) (v : Value) (y : D), xs[i]? = some v → as[i]? = some y → RepD w I v y) → (∀ (i : Nat) (v : Value) (y : D), ys[i]? = some v → bs[i]? = some y → RepD w I v y) → xs.length = as.length → ys.length = bs.length →
    cmpL l (as.drop o) (bs.drop o) = true → ∀ d, (Op.eqFields (d + 1) xs.toArray ys.toArray fs).run P w = .ok (beqL (as.drop o) (bs.drop o)) w := by
  induction fs with
  | nil =>
    intro o l hf xs ys as bs _ _ _ _ hc d
    simp only [flatFields, Option.some.injEq] at hf
    subst hf
    have : as.drop o = [] := by
      cases h : as.drop o with
      | nil => rfl
      | cons a r => rw [h] at hc; cases bs.drop o <;> simp [cmpL] at hc
    rw [this]
    simp [Op.eqFields, beqL]
  | cons f fs ih =>
    intro o l hf xs ys as bs hrx hry hlx hly hc d
    simp only [flatFields] at hf
    split at hf
    · rename_i hcond
      obtain ⟨hn, hoff⟩ := hcond
      have hshape : ∃ c l', l = c :: l' ∧ flatFields P fs (o + 1) = some l' ∧ ((c = 0 ∧ ∃ k, P.underlying f.type = some (.int k)) ∨ (c = 1 ∧ P.underlying f.type = some .bool) ∨ (c = 2 ∧ P.underlying f.type = some .string)) := by
        split at hf <;> first | (cases hf; done) | skip
        all_goals (simp only [Option.some.injEq] at hf; subst hf)
        · rename_i k l' h1 h2; exact ⟨0, l', rfl, h2, .inl ⟨rfl, k, h1⟩⟩
        · rename_i l' h1 h2; exact ⟨1, l', rfl, h2, .inr (.inl ⟨rfl, h1⟩)⟩
        · rename_i l' h1 h2; exact ⟨2, l', rfl, h2, .inr (.inr ⟨rfl, h1⟩)⟩
      obtain ⟨c, l', rfl, hrest, hty⟩ := hshape
      have la : o < as.length := by
        rcases Nat.lt_or_ge o as.length with h | h
        · exact h
        · rw [List.drop_of_length_le h] at hc; simp [cmpL] at hc
      have lb : o < bs.length := by
        rcases Nat.lt_or_ge o bs.length with h | h
        · exact h
        · rw [List.drop_of_length_le h, List.drop_eq_getElem_cons la] at hc; simp [cmpL] at hc
      have lx : o < xs.length := by omega
      have ly : o < ys.length := by omega
      have ea : as.drop o = as[o] :: as.drop (o + 1) := List.drop_eq_getElem_cons la
      have eb : bs.drop o = bs[o] :: bs.drop (o + 1) := List.drop_eq_getElem_cons lb
      rw [ea, eb] at hc ⊢
      simp only [cmpL, Bool.and_eq_true] at hc
      have r1 := hrx o _ _ (List.getElem?_eq_getElem lx) (List.getElem?_eq_getElem la)
      have r2 := hry o _ _ (List.getElem?_eq_getElem ly) (List.getElem?_eq_getElem lb)
      have hk : tkind P f.type = some false := by
        unfold tkind
        rcases hty with ⟨_, k, h⟩ | ⟨_, h⟩ | ⟨_, h⟩ <;> rw [h]
      have p1 : (part f.type xs.toArray f.offset).run P w = .ok xs[o] w := by
        unfold part
        simp only [Sem.run_bind, run_isAgg' hk, Result.andThen_ok, hoff]
        simp [lx]
      have p2 : (part f.type ys.toArray f.offset).run P w = .ok ys[o] w := by
        unfold part
        simp only [Sem.run_bind, run_isAgg' hk, Result.andThen_ok, hoff]
        simp [ly]
      have heq : (Op.equalIn (d + 1) f.type xs[o] ys[o]).run P w = .ok (as[o].beq1 bs[o]) w := by
        have hcm := hc.1
        generalize as[o] = A at *
        generalize bs[o] = B at *
        generalize xs[o] = X at *
        generalize ys[o] = Y at *
        rcases hty with ⟨rfl, k, h⟩ | ⟨rfl, h⟩ | ⟨rfl, h⟩
        · cases r1 <;> cases r2 <;> simp [D.cmp1] at hcm
          subst hcm
          exact run_equalIn_int w d f.type _ k _ _ h
        · cases r1 <;> cases r2 <;> simp [D.cmp1] at hcm
          exact run_equalIn_bool' w d f.type _ _ h
        · cases r1 <;> cases r2 <;> simp [D.cmp1] at hcm
          rename_i s s'
          rw [run_equalIn_string w d f.type _ _ h, toList_mk, toList_mk]
          rfl
      simp only [Op.eqFields, ne_eq, hn, not_false_eq_true, if_true, Sem.run_bind, p1, p2, Result.andThen_ok, heq]
      cases hbq : as[o].beq1 bs[o] with
      | false => simp [beqL, hbq]
      | true =>
        simp only [beqL, hbq, Bool.true_and]
        simpa using ih hrest hrx hry hlx hly hc.2 d
    · cases hf

theorem binop_goes0 {op : BinOp} {t : TypeId} {x y : Operand} {a b : Value} {u v : AV} (ha : RepV w I μ σ a u) (hb : RepV w I μ σ b v) (ho : binOk0 P t op u v) :
    ∃ z, (do eqGuard op t x y a b; binOp op t a b : Sem Value).run P w = .ok z w ∧ RepV w I μ σ z (binV0 op u v) := by
  cases u with
  | d p =>
    cases v with
    | d q =>
      have h1 := ha.inv_d
      have h2 := hb.inv_d
      have fin : (∃ z, (binOp op t a b).run P w = .ok z w ∧ RepD w I z (binD op p q)) → (eqGuard op t x y a b).run P w = .ok () w →
          ∃ z, (do eqGuard op t x y a b; binOp op t a b : Sem Value).run P w = .ok z w ∧ RepV w I μ σ z (binV0 op (.d p) (.d q)) := by
        rintro ⟨z, hz, hr⟩ hg
        exact ⟨z, by simp only [Sem.run_bind, hg, Result.andThen_ok]; exact hz, .d _ _ hr⟩
      cases h1 with
      | int k n =>
        cases h2 with
        | int k' n' => exact fin (int_bin op t k k' n n' ho) (run_eqGuard_plain op t x y _ _ rfl)
        | _ => exact ho.elim
      | str s =>
        cases h2 with
        | str s' => exact fin (str_bin op t s s' ho) (run_eqGuard_plain op t x y _ _ rfl)
        | _ => exact ho.elim
      | bool c =>
        cases h2 with
        | bool c' =>
          obtain ⟨h3, h4⟩ := ho
          refine fin ?_ (run_eqGuard_plain op t x y _ _ rfl)
          cases op <;> simp only at h3
          · exact ⟨.bool (c == c'), by simp [binOp, Op.equal, Op.maxDepth, run_equalIn_bool' w 9999 t c c' h4], .bool _⟩
          · exact ⟨.bool (!(c == c')), by simp [binOp, Op.equal, Op.maxDepth, run_equalIn_bool' w 9999 t c c' h4], .bool _⟩
        | _ => exact ho.elim
      | agg vs cs hl _ hh =>
        cases h2 with
        | agg vs' cs' hl' _ hh' =>
          obtain ⟨h3, h4⟩ := ho
          cases ht : tcmp P t with
          | none => rw [ht] at h4; exact h4.elim
          | some l =>
            rw [ht] at h4
            unfold tcmp at ht
            split at ht
            · rename_i fs hu
              split at ht
              · rename_i hc
                have key := flatFields_spec (P := P) (w := w) (I := I) ht hh hh' hl hl' (by simpa using h4) 9998
                simp only [List.drop_zero] at key
                have e1 : (Op.equalIn 10000 t (.agg vs.toArray) (.agg vs'.toArray)).run P w = .ok (beqL cs cs') w := by
                  rw [run_equalIn_agg w 9999 t _ _ (by unfold Program.fieldsOf; rw [hu]) hc.1]
                  have : P.fieldsOf t = fs := by unfold Program.fieldsOf; rw [hu]
                  rw [this]; exact key
                refine fin ?_ (run_eqGuard_agg w op t x y _ _ hc.2)
                cases op <;> simp only at h3
                · exact ⟨.bool (beqL cs cs'), by rw [run_eql_struct, e1]; rfl, .bool _⟩
                · exact ⟨.bool (!(beqL cs cs')), by rw [run_neq_struct, e1]; rfl, .bool _⟩
              · cases ht
            · cases ht
        | _ => exact ho.elim
      | _ => cases q <;> exact ho.elim
    | _ => exact ho.elim
  | _ => exact ho.elim

theorem nil_cases {op : BinOp} {t : TypeId} {x y : Operand} {a b : Value} {u : AV} {c : Bool} (h : op = .eql ∨ op = .neq) (hg : (match a with | .agg _ | .nilIface => false | _ => true) = true)
    (hb : binOp .eql t a b = (do pure (.bool (← Op.equal t a b)) : Sem Value)) (hb2 : binOp .neq t a b = (do pure (.bool (!(← Op.equal t a b))) : Sem Value))
    (he : (Op.equal t a b).run P w = .ok c w) (hu : isNilV u = .d (.bool c) ∨ isNilV u = .anyb) :
    ∃ z, (do eqGuard op t x y a b; binOp op t a b : Sem Value).run P w = .ok z w ∧ RepV w I μ σ z (nilBin op (isNilV u)) := by
  have hgd := run_eqGuard_plain (P := P) (w := w) op t x y a b hg
  rcases h with rfl | rfl
  · refine ⟨.bool c, by simp only [Sem.run_bind, hgd, Result.andThen_ok, hb, he, Sem.run_pure], ?_⟩
    rcases hu with hu | hu <;> rw [hu]
    · exact .d _ _ (.bool _)
    · exact .anyb _
  · refine ⟨.bool (!c), by simp only [Sem.run_bind, hgd, Result.andThen_ok, hb2, he, Sem.run_pure], ?_⟩
    rcases hu with hu | hu <;> rw [hu]
    · exact .d _ _ (.bool _)
    · exact .anyb _

theorem und_slice {t : TypeId} (h : (telem P t).isSome = true) : ∃ e, P.underlying t = some (.slice e) := by
  unfold telem at h
  split at h
  · exact ⟨_, by assumption⟩
  · cases h
theorem und_ptr {t : TypeId} (h : tptr P t = true) : ∃ e, P.underlying t = some (.pointer e) := by
  unfold tptr at h
  split at h
  · exact ⟨_, by assumption⟩
  · cases h
theorem und_map {t : TypeId} (h : (tmap P t).isSome = true) : ∃ k e, P.underlying t = some (.map k e) := by
  unfold tmap at h
  split at h
  · exact ⟨_, _, by assumption⟩
  · cases h

theorem equalIn_slice_nil {t e : TypeId} (h : P.underlying t = some (.slice e)) (p : Option Addr) (n c : Nat) (d : Nat) : (Op.equalIn (d + 1) t (.slice p n c) (.slice none 0 0)).run P w = .ok p.isNone w := by
  cases p <;> simp [Op.equalIn, run_underlying h]
theorem equal_slice_nil {t e : TypeId} (h : P.underlying t = some (.slice e)) (p : Option Addr) (n c : Nat) : (Op.equal t (.slice p n c) (.slice none 0 0)).run P w = .ok p.isNone w := equalIn_slice_nil h p n c 9999
theorem equalIn_ptr_nil {t e : TypeId} (h : P.underlying t = some (.pointer e)) (p : Option Addr) (d : Nat) : (Op.equalIn (d + 1) t (.pointer p) (.pointer none)).run P w = .ok p.isNone w := by
  cases p <;> simp [Op.equalIn, run_underlying h]
theorem equal_ptr_nil {t e : TypeId} (h : P.underlying t = some (.pointer e)) (p : Option Addr) : (Op.equal t (.pointer p) (.pointer none)).run P w = .ok p.isNone w := equalIn_ptr_nil h p 9999
theorem equalIn_map_nil {t k e : TypeId} (h : P.underlying t = some (.map k e)) (p : Option Nat) (d : Nat) : (Op.equalIn (d + 1) t (.map p) (.map none)).run P w = .ok p.isNone w := by
  cases p <;> simp [Op.equalIn, run_underlying h]
theorem equal_map_nil {t k e : TypeId} (h : P.underlying t = some (.map k e)) (p : Option Nat) : (Op.equal t (.map p) (.map none)).run P w = .ok p.isNone w := equalIn_map_nil h p 9999

theorem nilsl (xs : List D) : isNilV (.d (.sl xs)) = .d (.bool false) ∨ isNilV (.d (.sl xs)) = .anyb := by cases xs <;> simp [isNilV]
theorem nilosl (i o n : Nat) : isNilV (.osl i o n) = .d (.bool false) ∨ isNilV (.osl i o n) = .anyb := by cases n <;> simp [isNilV]
theorem nil_goes {op : BinOp} {t : TypeId} {x y : Operand} {a b : Value} {u v : AV} (ha : RepV w I μ σ a u) (hb : RepV w I μ σ b v) (ho : nilOk P t op u v) :
    ∃ z, (do eqGuard op t x y a b; binOp op t a b : Sem Value).run P w = .ok z w ∧ RepV w I μ σ z (nilBin op (isNilV u)) := by
  obtain ⟨h, ho⟩ := ho
  have sl : ∀ (p : Option Addr) (n c : Nat), a = .slice p n c → b = .slice none 0 0 → (telem P t).isSome = true → (isNilV u = .d (.bool p.isNone) ∨ isNilV u = .anyb) →
      ∃ z, (do eqGuard op t x y a b; binOp op t a b : Sem Value).run P w = .ok z w ∧ RepV w I μ σ z (nilBin op (isNilV u)) := by
    intro p n c e1 e2 ht hu
    subst e1; subst e2
    obtain ⟨e, ht⟩ := und_slice ht
    exact nil_cases h rfl rfl rfl (equal_slice_nil ht p n c) hu
  have pt : ∀ (p : Option Addr), a = .pointer p → b = .pointer none → tptr P t = true → isNilV u = .d (.bool p.isNone) →
      ∃ z, (do eqGuard op t x y a b; binOp op t a b : Sem Value).run P w = .ok z w ∧ RepV w I μ σ z (nilBin op (isNilV u)) := by
    intro p e1 e2 ht hu
    subst e1; subst e2
    obtain ⟨e, ht⟩ := und_ptr ht
    exact nil_cases h rfl rfl rfl (equal_ptr_nil ht p) (.inl hu)
  have mp : ∀ (p : Option Nat), a = .map p → b = .map none → (tmap P t).isSome = true → isNilV u = .d (.bool p.isNone) →
      ∃ z, (do eqGuard op t x y a b; binOp op t a b : Sem Value).run P w = .ok z w ∧ RepV w I μ σ z (nilBin op (isNilV u)) := by
    intro p e1 e2 ht hu
    subst e1; subst e2
    obtain ⟨k, e, ht⟩ := und_map ht
    exact nil_cases h rfl rfl rfl (equal_map_nil ht p) (.inl hu)
  split at ho
  · have e2 : b = .slice none 0 0 := by cases hb; rfl
    have e1 : a = .slice none 0 0 := by cases ha; rfl
    exact sl none 0 0 e1 e2 ho (.inl rfl)
  · have e2 : b = .slice none 0 0 := by cases hb; rfl
    cases ha.inv_d with
    | nil p c => exact sl p 0 c rfl e2 ho (.inr rfl)
    | sl b' off es cap _ vals => exact sl _ _ _ rfl e2 ho (nilsl _)
  · have e2 : b = .slice none 0 0 := by cases hb; rfl
    cases ha with
    | osl _ id off len hid hh =>
      rcases hh with ⟨rfl, p, rfl⟩ | ⟨b', base, es, cap, _, _, rfl⟩
      · exact sl p 0 0 rfl e2 ho (.inr rfl)
      · exact sl _ _ _ rfl e2 ho (nilosl _ _ _)
  · have e2 : b = .pointer none := by cases hb.inv_d; rfl
    cases ha with | ptr _ id off hid hh => obtain ⟨_, _, _, rfl⟩ := hh; exact pt _ rfl e2 ho rfl
  · have e2 : b = .pointer none := by cases hb.inv_d; rfl
    cases ha with | eptr => exact pt _ rfl e2 ho rfl
  · have e2 : b = .pointer none := by cases hb.inv_d; rfl
    cases ha with | aptr _ id i off hid hh => obtain ⟨_, _, _, _, rfl⟩ := hh; exact pt _ rfl e2 ho rfl
  · have e2 : b = .pointer none := by cases hb.inv_d; rfl
    have e1 : a = .pointer none := by cases ha.inv_d; rfl
    exact pt none e1 e2 ho rfl
  · have e2 : b = .map none := by cases hb.inv_d; rfl
    cases ha with | mapr _ id hid hh => obtain ⟨_, _, rfl⟩ := hh; exact mp _ rfl e2 ho rfl
  · have e2 : b = .map none := by cases hb.inv_d; rfl
    have e1 : a = .map none := by cases ha.inv_d; rfl
    exact mp none e1 e2 ho rfl
  · exact ho.elim

theorem binop_goes {op : BinOp} {t : TypeId} {x y : Operand} {a b : Value} {u v : AV} (ha : RepV w I μ σ a u) (hb : RepV w I μ σ b v) (ho : binOk P t op u v) :
    ∃ z, (do eqGuard op t x y a b; binOp op t a b : Sem Value).run P w = .ok z w ∧ RepV w I μ σ z (binV op u v) := by
  unfold binOk at ho
  unfold binV
  by_cases h : v.isNilc = true
  · rw [if_pos h] at ho ⊢; exact nil_goes ha hb ho
  · rw [if_neg h] at ho ⊢; exact binop_goes0 ha hb ho

theorem unop_goes {op : UnOp} {a : Value} {u : AV} (ha : RepV w I μ σ a u) (ho : unOk op u) : ∃ z, (Op.unary op a).run P w = .ok z w ∧ RepV w I μ σ z (unV op u) := by
  cases u with
  | d p =>
    have h1 := ha.inv_d
    cases h1 with
    | int k n =>
      cases op <;> simp only [unOk] at ho
      · exact ⟨.int k (k.wrap (0 - n)), by simp [Op.unary, Op.intArith], .d _ _ (.int _ _)⟩
      · exact ⟨.int k (k.wrap ((BitVec.ofInt k.bits (if k.signed then -1 else k.max)) ^^^ (BitVec.ofInt k.bits n)).toNat), by simp only [Op.unary, Op.intBits, Sem.run_pure], .d _ _ (.int _ _)⟩
    | bool b =>
      cases op <;> simp only [unOk] at ho
      exact ⟨.bool (!b), rfl, .d _ _ (.bool _)⟩
    | _ => exact ho.elim
  | _ => exact ho.elim

end Go.AM
