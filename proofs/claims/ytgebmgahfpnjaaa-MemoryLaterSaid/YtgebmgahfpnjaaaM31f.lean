/- A part of the proof: contracts of functions of this seat, and lemmas. No condition beyond those stated. -/
import Derived.Test.YtgebmgahfpnjaaaM31e
import Derived.Test.YtgebmgahfpnjaaaG5
import Derived.Test.YtgebmgahfpnjaaaXSrt8
set_option linter.unusedVariables false
set_option linter.unusedSimpArgs false
set_option linter.unusedSectionVars false
set_option linter.unnecessarySimpa false
set_option linter.unusedSimpArgs false
set_option linter.unusedVariables false
set_option maxRecDepth 100000
namespace Go.Proofs
open Go.AM
namespace Ytgebmgahfpnjaaa

def closeB (b : BlockT) (t : Int) : BlockT := { b with hi := t, live := false }
abbrev OfSt := List BlockT × (Int → Option Nat)
def ofClose (o : TimedT) (st : OfSt) : OfSt := match st.2 o.n with
  | some i => (st.1.set i (closeB (st.1.getD i default) (timeF o)), updN st.2 o.n none)
  | none => st
def ofOpen (E : Int) (o : TimedT) (st : OfSt) : OfSt := if o.kind = 11 then (st.1 ++ [⟨o.n, o.thread, o.m, timeF o, E, o.stack, true⟩], updN st.2 o.n (some st.1.length)) else st
def ofStep (E : Int) (o : TimedT) (st : OfSt) : OfSt := if o.kind = 11 ∨ o.kind = 12 then ofOpen E o (ofClose o st) else st
def ofRun (os : List TimedT) (E : Int) : Nat → OfSt
  | 0 => ([], fun _ => none)
  | k + 1 => ofStep E (os.getD k default) (ofRun os E k)
def OfOk (st : OfSt) : Prop := ∀ n i, st.2 n = some i → i < st.1.length
theorem ofClose_ok {o : TimedT} {st : OfSt} (h : OfOk st) : OfOk (ofClose o st) := by
  unfold ofClose
  split
  · intro n i hi
    simp only [updN] at hi
    split at hi
    · cases hi
    · simpa using h n i hi
  · exact h
theorem ofOpen_ok {E : Int} {o : TimedT} {st : OfSt} (h : OfOk st) : OfOk (ofOpen E o st) := by
  unfold ofOpen
  split
  · intro n i hi
    simp only [updN] at hi
    split at hi
    · simp only [Option.some.injEq] at hi; subst hi; simp
    · have := h n i hi; simp; omega
  · exact h
theorem ofStep_ok {E : Int} {o : TimedT} {st : OfSt} (h : OfOk st) : OfOk (ofStep E o st) := by
  unfold ofStep
  split
  · exact ofOpen_ok (ofClose_ok h)
  · exact h
theorem ofRun_ok (os : List TimedT) (E : Int) : ∀ k, OfOk (ofRun os E k)
  | 0 => fun n i h => by cases h
  | k + 1 => ofStep_ok (ofRun_ok os E k)
theorem ofClose_len (o : TimedT) (st : OfSt) : (ofClose o st).1.length = st.1.length := by
  unfold ofClose; split <;> simp
theorem ofRun_len (os : List TimedT) (E : Int) : ∀ k, (ofRun os E k).1.length ≤ k
  | 0 => Nat.le_refl _
  | k + 1 => by
    have h := ofRun_len os E k
    have h2 := ofClose_len (os.getD k default) (ofRun os E k)
    unfold ofRun ofStep ofOpen
    split
    · split
      · simp only [List.length_append, List.length_cons, List.length_nil]; omega
      · omega
    · omega

def loB (a b : BlockT) : Bool := decide (a.lo < b.lo)
def keptB (b : BlockT) : Bool := !decide (b.hi ≤ b.lo)
def ofF (os : List TimedT) (e : Int) : List BlockT := sortF loB ((ofRun os (endF os e) os.length).1.filter keptB)

theorem cmpI_lt (a b : Int) : (cmpI a b < 0) = (a < b) := by
  unfold cmpI
  split
  · simp [*]
  · split <;> simp [*] <;> omega
def DmB (x : D) : Prop := ∃ b : BlockT, x = b.toD
def cmpD (x y : D) : Int := cmpI (x.cell 3).toInt (y.cell 3).toInt
def ltD (x y : D) : Bool := decide ((x.cell 3).toInt < (y.cell 3).toInt)
theorem swoD : Swo DmB (fun x y => decide (cmpD x y < 0)) := by
  refine ⟨fun x _ => ?_, fun x y z _ _ _ h1 h2 => ?_, fun x y z _ _ _ h1 h2 => ?_⟩ <;> simp only [cmpD, cmpI_lt, decide_eq_true_eq, decide_eq_false_iff_not] at * <;> omega
theorem cmpOk32 : CmpOk DmB cmpD 32 [] := by
  refine ⟨fun x hx => ?_, fun s => rfl, fun x y hx hy s => ?_, swoD⟩
  · obtain ⟨b, rfl⟩ := hx; exact ⟨rfl, rfl⟩
  · obtain ⟨a, rfl⟩ := hx
    obtain ⟨b, rfl⟩ := hy
    exact c32 a b s
theorem sort31 (xs : List BlockT) (n : Nat) (hn : n ≤ xs.length) (hN : n < 1000000) :
    ACalls Try.prog [] 31 [.osl 0 0 n, .fn 32 []] [.arr 7 (xs.map BlockT.toD)] (fun r s => r = .tup [] ∧ s = [.arr 7 ((sortF loB (xs.take n) ++ xs.drop n).map BlockT.toD)]) := by
  have hx : ∀ y ∈ xs.map BlockT.toD, DmB y := fun y hy => by
    obtain ⟨b, _, rfl⟩ := List.mem_map.1 hy
    exact ⟨b, rfl⟩
  refine (sortStable_spec DmB cmpD 32 [] cmpOk32 (xs.map BlockT.toD) hx n (by simpa using hn) hN).mono fun r s h => ?_
  obtain ⟨rfl, zs, ρ, rfl, hA, hB, hid⟩ := h
  have e := stabled_sortF swoD hx (by simpa using hn) hA hB hid
  have e2 : (fun x y => decide (cmpD (BlockT.toD x) (BlockT.toD y) < 0)) = loB := by
    funext x y
    simp only [cmpD, cmpI_lt]; rfl
  rw [← List.map_take, sortF_map, e2, ← List.map_drop, ← List.map_append] at e
  exact ⟨rfl, by rw [e]⟩

set_option maxHeartbeats 2000000 in
theorem c11 (os : List TimedT) (e : Int) (hl : os.length < 1000000) : Pure Try.prog 11 [.d (.sl (os.map TimedT.toD)), .d (.int .i64 e)] (.d (.sl ((ofF os e).map BlockT.toD))) := by
  refine Pure.of2 ?_
  by_cases hn : os.length = 0
  · have hE : max 0 (min e 1000000000000) = endF os e := by rw [endF, if_pos hn]
    refine acalls_of Try.func11 rfl rfl (by simp [Try.ntmps11]) (evC_sound rfl _ _ _ _ ?_)
    simp only [Try.ntmps11, Try.results11, argEnv, List.length_nil]
    simp only [vcRules, dRules, bRules, tyRules, xRules, pickV_true, pickV_false, implies_true, Nat.reduceLT, Nat.reduceLeDiff, Nat.reduceEqDiff, Nat.reduceAdd, Nat.reduceSub, Nat.reduceMul, Int.reduceToNat, Int.reduceLT, Int.reduceLE, Int.reduceEq, Int.reduceAdd, Int.reduceSub, Int.reduceNeg, Int.reduceBEq, Int.reduceBNe, Int.reduceMul, Int.natCast_add, Int.natCast_one, reduceCtorEq, reduceIte, b_isAgg, b_cells, t_isAgg, t_cells, yRules, (show ¬ (0:Int) < os.length by omega), y_mapN0, hE]
    repeat ((with_reducible refine And.intro ?_ ?_); (focus (first | omega | (intros; simp_all; done) | kernel_rfl)))
    clear hE
    generalize hE : endF os e = E
    refine for_of os.length (fun k => [(1, .d (.int .i64 E)), (5, .osl 1 0 (ofRun os E k).1.length), (6, .mapr 0), (28, .d (.sl (os.map TimedT.toD))), (29, .d (.int .i64 os.length)), (30, .d (.int .i64 k))]) (fun k => [.map (some .i64) (mapN (ofRun os E k).2), .arr 7 ((ofRun os E k).1.map BlockT.toD)]) (fun _ => True) trivial ?_ ?_
    · refine (weak_nils 5 7 rfl).trans ?_
      refine weak_to [] [0, 1] rfl (by simp) ?_ ?_
      · simp only [vcRules, dRules, bRules, tyRules, xRules, pickV_true, pickV_false, implies_true, Nat.reduceLT, Nat.reduceLeDiff, Nat.reduceEqDiff, Nat.reduceAdd, Nat.reduceSub, Nat.reduceMul, Int.reduceToNat, Int.reduceLT, Int.reduceLE, Int.reduceEq, Int.reduceAdd, Int.reduceSub, Int.reduceNeg, Int.reduceBEq, Int.reduceBNe, Int.reduceMul, Int.natCast_add, Int.natCast_one, reduceCtorEq, reduceIte, b_isAgg, b_cells, t_isAgg, t_cells, yRules, Int.cast_ofNat_Int, ofRun]
      · simp only [vcRules, dRules, bRules, tyRules, xRules, pickV_true, pickV_false, implies_true, Nat.reduceLT, Nat.reduceLeDiff, Nat.reduceEqDiff, Nat.reduceAdd, Nat.reduceSub, Nat.reduceMul, Int.reduceToNat, Int.reduceLT, Int.reduceLE, Int.reduceEq, Int.reduceAdd, Int.reduceSub, Int.reduceNeg, Int.reduceBEq, Int.reduceBNe, Int.reduceMul, Int.natCast_add, Int.natCast_one, reduceCtorEq, reduceIte, b_isAgg, b_cells, t_isAgg, t_cells, yRules, ofRun]
    · intro k _ hk
      by_cases h : k < os.length
      · obtain ⟨st, hst⟩ : ∃ st, st = ofRun os E k := ⟨_, rfl⟩
        have hok : OfOk st := by rw [hst]; exact ofRun_ok os E k
        have hlen : st.1.length ≤ k := by rw [hst]; exact ofRun_len os E k
        have hstep : ofRun os E (k + 1) = ofStep E (os.getD k default) st := by rw [hst]; rfl
        rw [hstep, ← hst]
        obtain ⟨o, ho⟩ : ∃ o, o = os.getD k default := ⟨_, rfl⟩
        rw [← ho]
        simp only [vcRules, dRules, bRules, tyRules, xRules, pickV_true, pickV_false, implies_true, Nat.reduceLT, Nat.reduceLeDiff, Nat.reduceEqDiff, Nat.reduceAdd, Nat.reduceSub, Nat.reduceMul, Int.reduceToNat, Int.reduceLT, Int.reduceLE, Int.reduceEq, Int.reduceAdd, Int.reduceSub, Int.reduceNeg, Int.reduceBEq, Int.reduceBNe, Int.reduceMul, Int.natCast_add, Int.natCast_one, reduceCtorEq, reduceIte, b_isAgg, b_cells, t_isAgg, t_cells, yRules, (show (k:Int) < os.length by omega), h, a_getD _ _ _ (show k < os.length by omega), ← ho]
        repeat ((with_reducible refine And.intro ?_ ?_); (focus (first | omega | (intros; simp_all; done) | kernel_rfl)))
        refine ifC.mk (fun hk => ?_) (fun hk => ?_)
        · have hk' : ¬ (o.kind = 11 ∨ o.kind = 12) := by simpa using hk
          have hs : ofStep E o st = st := by unfold ofStep; rw [if_neg hk']
          rw [hs]
          refine weak_to [] [0, 1] rfl (by simp) ?_ ?_
          · simp only [vcRules, dRules, bRules, tyRules, xRules, pickV_true, pickV_false, implies_true, Nat.reduceLT, Nat.reduceLeDiff, Nat.reduceEqDiff, Nat.reduceAdd, Nat.reduceSub, Nat.reduceMul, Int.reduceToNat, Int.reduceLT, Int.reduceLE, Int.reduceEq, Int.reduceAdd, Int.reduceSub, Int.reduceNeg, Int.reduceBEq, Int.reduceBNe, Int.reduceMul, Int.natCast_add, Int.natCast_one, reduceCtorEq, reduceIte, b_isAgg, b_cells, t_isAgg, t_cells, yRules, @a_wrap ((k:Int) + 1) (by omega)]
          · simp only [vcRules, dRules, bRules, tyRules, xRules, pickV_true, pickV_false, implies_true, Nat.reduceLT, Nat.reduceLeDiff, Nat.reduceEqDiff, Nat.reduceAdd, Nat.reduceSub, Nat.reduceMul, Int.reduceToNat, Int.reduceLT, Int.reduceLE, Int.reduceEq, Int.reduceAdd, Int.reduceSub, Int.reduceNeg, Int.reduceBEq, Int.reduceBNe, Int.reduceMul, Int.natCast_add, Int.natCast_one, reduceCtorEq, reduceIte, b_isAgg, b_cells, t_isAgg, t_cells, yRules]
        · have hk' : o.kind = 11 ∨ o.kind = 12 := by simp at hk; omega
          have hs : ofStep E o st = ofOpen E o (ofClose o st) := by unfold ofStep; rw [if_pos hk']
          rw [hs]
          rcases hg : st.2 o.n with _ | i
          · have hc : ofClose o st = st := by unfold ofClose; rw [hg]
            rw [hc]
            simp only [vcRules, dRules, bRules, tyRules, xRules, pickV_true, pickV_false, implies_true, Nat.reduceLT, Nat.reduceLeDiff, Nat.reduceEqDiff, Nat.reduceAdd, Nat.reduceSub, Nat.reduceMul, Int.reduceToNat, Int.reduceLT, Int.reduceLE, Int.reduceEq, Int.reduceAdd, Int.reduceSub, Int.reduceNeg, Int.reduceBEq, Int.reduceBNe, Int.reduceMul, Int.natCast_add, Int.natCast_one, reduceCtorEq, reduceIte, b_isAgg, b_cells, t_isAgg, t_cells, yRules, hg]
            repeat ((with_reducible refine And.intro ?_ ?_); (focus (first | omega | (intros; simp_all; done) | kernel_rfl)))
            have ta : True := trivial
            refine ifC.mk (fun hk2 => ?_) (fun hk2 => ?_)
            · refine ⟨by kernel_rfl, callF_pure (c28 _) ?_⟩
              simp only [vcRules, dRules, bRules, tyRules, xRules, pickV_true, pickV_false, implies_true, Nat.reduceLT, Nat.reduceLeDiff, Nat.reduceEqDiff, Nat.reduceAdd, Nat.reduceSub, Nat.reduceMul, Int.reduceToNat, Int.reduceLT, Int.reduceLE, Int.reduceEq, Int.reduceAdd, Int.reduceSub, Int.reduceNeg, Int.reduceBEq, Int.reduceBNe, Int.reduceMul, Int.natCast_add, Int.natCast_one, reduceCtorEq, reduceIte, b_isAgg, b_cells, t_isAgg, t_cells, yRules, take_all, ta]
              repeat ((with_reducible refine And.intro ?_ ?_); (focus (first | omega | (intros; simp_all; done) | kernel_rfl)))
              have ho2 : ∀ st, ofOpen E o st = (st.1 ++ [⟨o.n, o.thread, o.m, timeF o, E, o.stack, true⟩], updN st.2 o.n (some st.1.length)) := fun st => by unfold ofOpen; rw [if_pos (by simpa using hk2)]
              rw [ho2]
              refine weak_to [] [0, 4] rfl (by simp) ?_ ?_
              · simp only [vcRules, dRules, bRules, tyRules, xRules, pickV_true, pickV_false, implies_true, Nat.reduceLT, Nat.reduceLeDiff, Nat.reduceEqDiff, Nat.reduceAdd, Nat.reduceSub, Nat.reduceMul, Int.reduceToNat, Int.reduceLT, Int.reduceLE, Int.reduceEq, Int.reduceAdd, Int.reduceSub, Int.reduceNeg, Int.reduceBEq, Int.reduceBNe, Int.reduceMul, Int.natCast_add, Int.natCast_one, reduceCtorEq, reduceIte, b_isAgg, b_cells, t_isAgg, t_cells, yRules, @a_wrap ((k:Int) + 1) (by omega)]
              · simp only [vcRules, dRules, bRules, tyRules, xRules, pickV_true, pickV_false, implies_true, Nat.reduceLT, Nat.reduceLeDiff, Nat.reduceEqDiff, Nat.reduceAdd, Nat.reduceSub, Nat.reduceMul, Int.reduceToNat, Int.reduceLT, Int.reduceLE, Int.reduceEq, Int.reduceAdd, Int.reduceSub, Int.reduceNeg, Int.reduceBEq, Int.reduceBNe, Int.reduceMul, Int.natCast_add, Int.natCast_one, reduceCtorEq, reduceIte, b_isAgg, b_cells, t_isAgg, t_cells, yRules, List.map_append]
                rfl
            · have ho2 : ∀ st, ofOpen E o st = st := fun st => by unfold ofOpen; rw [if_neg (by simpa using hk2)]
              rw [ho2]
              refine weak_to [] [0, 1] rfl (by simp) ?_ ?_
              · simp only [vcRules, dRules, bRules, tyRules, xRules, pickV_true, pickV_false, implies_true, Nat.reduceLT, Nat.reduceLeDiff, Nat.reduceEqDiff, Nat.reduceAdd, Nat.reduceSub, Nat.reduceMul, Int.reduceToNat, Int.reduceLT, Int.reduceLE, Int.reduceEq, Int.reduceAdd, Int.reduceSub, Int.reduceNeg, Int.reduceBEq, Int.reduceBNe, Int.reduceMul, Int.natCast_add, Int.natCast_one, reduceCtorEq, reduceIte, b_isAgg, b_cells, t_isAgg, t_cells, yRules, @a_wrap ((k:Int) + 1) (by omega)]
              · simp only [vcRules, dRules, bRules, tyRules, xRules, pickV_true, pickV_false, implies_true, Nat.reduceLT, Nat.reduceLeDiff, Nat.reduceEqDiff, Nat.reduceAdd, Nat.reduceSub, Nat.reduceMul, Int.reduceToNat, Int.reduceLT, Int.reduceLE, Int.reduceEq, Int.reduceAdd, Int.reduceSub, Int.reduceNeg, Int.reduceBEq, Int.reduceBNe, Int.reduceMul, Int.natCast_add, Int.natCast_one, reduceCtorEq, reduceIte, b_isAgg, b_cells, t_isAgg, t_cells, yRules]
          · have hi : i < st.1.length := hok _ _ hg
            have hc : ofClose o st = (st.1.set i (closeB (st.1.getD i default) (timeF o)), updN st.2 o.n none) := by unfold ofClose; rw [hg]
            rw [hc]
            simp only [vcRules, dRules, bRules, tyRules, xRules, pickV_true, pickV_false, implies_true, Nat.reduceLT, Nat.reduceLeDiff, Nat.reduceEqDiff, Nat.reduceAdd, Nat.reduceSub, Nat.reduceMul, Int.reduceToNat, Int.reduceLT, Int.reduceLE, Int.reduceEq, Int.reduceAdd, Int.reduceSub, Int.reduceNeg, Int.reduceBEq, Int.reduceBNe, Int.reduceMul, Int.natCast_add, Int.natCast_one, reduceCtorEq, reduceIte, b_isAgg, b_cells, t_isAgg, t_cells, yRules, hg]
            repeat ((with_reducible refine And.intro ?_ ?_); (focus (first | omega | (intros; simp_all; done) | kernel_rfl)))
            refine callF_pure (c28 _) ?_
            have z : D.agg [.int .i64 (st.1.getD i default).id, .int .i64 (st.1.getD i default).thread, .int .i64 (st.1.getD i default).size, .int .i64 (st.1.getD i default).lo, .int .i64 (timeF o), .sl ((st.1.getD i default).stack.map .str), .bool false] = (closeB (st.1.getD i default) (timeF o)).toD := rfl
            simp only [vcRules, dRules, bRules, tyRules, xRules, pickV_true, pickV_false, implies_true, Nat.reduceLT, Nat.reduceLeDiff, Nat.reduceEqDiff, Nat.reduceAdd, Nat.reduceSub, Nat.reduceMul, Int.reduceToNat, Int.reduceLT, Int.reduceLE, Int.reduceEq, Int.reduceAdd, Int.reduceSub, Int.reduceNeg, Int.reduceBEq, Int.reduceBNe, Int.reduceMul, Int.natCast_add, Int.natCast_one, reduceCtorEq, reduceIte, b_isAgg, b_cells, t_isAgg, t_cells, yRules, (show (i:Int) < st.1.length by omega), hi, a_getD _ _ _ (show i < st.1.length by omega), getD_set _ _ _ _ (show i < (st.1.map BlockT.toD).length by rw [List.length_map]; exact hi), List.set_set, z, ← List.map_set]
            repeat ((with_reducible refine And.intro ?_ ?_); (focus (first | omega | (intros; simp_all; done) | kernel_rfl)))
            have ta : ∀ x, ((st.1.set i x).map BlockT.toD).take st.1.length = (st.1.set i x).map BlockT.toD := fun x => List.take_of_length_le (by simp)
            refine ifC.mk (fun hk2 => ?_) (fun hk2 => ?_)
            · refine ⟨by kernel_rfl, callF_pure (c28 _) ?_⟩
              simp only [vcRules, dRules, bRules, tyRules, xRules, pickV_true, pickV_false, implies_true, Nat.reduceLT, Nat.reduceLeDiff, Nat.reduceEqDiff, Nat.reduceAdd, Nat.reduceSub, Nat.reduceMul, Int.reduceToNat, Int.reduceLT, Int.reduceLE, Int.reduceEq, Int.reduceAdd, Int.reduceSub, Int.reduceNeg, Int.reduceBEq, Int.reduceBNe, Int.reduceMul, Int.natCast_add, Int.natCast_one, reduceCtorEq, reduceIte, b_isAgg, b_cells, t_isAgg, t_cells, yRules, take_all, ta]
              repeat ((with_reducible refine And.intro ?_ ?_); (focus (first | omega | (intros; simp_all; done) | kernel_rfl)))
              have ho2 : ∀ st, ofOpen E o st = (st.1 ++ [⟨o.n, o.thread, o.m, timeF o, E, o.stack, true⟩], updN st.2 o.n (some st.1.length)) := fun st => by unfold ofOpen; rw [if_pos (by simpa using hk2)]
              rw [ho2]
              refine weak_to [] [0, 4] rfl (by simp) ?_ ?_
              · simp only [vcRules, dRules, bRules, tyRules, xRules, pickV_true, pickV_false, implies_true, Nat.reduceLT, Nat.reduceLeDiff, Nat.reduceEqDiff, Nat.reduceAdd, Nat.reduceSub, Nat.reduceMul, Int.reduceToNat, Int.reduceLT, Int.reduceLE, Int.reduceEq, Int.reduceAdd, Int.reduceSub, Int.reduceNeg, Int.reduceBEq, Int.reduceBNe, Int.reduceMul, Int.natCast_add, Int.natCast_one, reduceCtorEq, reduceIte, b_isAgg, b_cells, t_isAgg, t_cells, yRules, @a_wrap ((k:Int) + 1) (by omega)]
              · simp only [vcRules, dRules, bRules, tyRules, xRules, pickV_true, pickV_false, implies_true, Nat.reduceLT, Nat.reduceLeDiff, Nat.reduceEqDiff, Nat.reduceAdd, Nat.reduceSub, Nat.reduceMul, Int.reduceToNat, Int.reduceLT, Int.reduceLE, Int.reduceEq, Int.reduceAdd, Int.reduceSub, Int.reduceNeg, Int.reduceBEq, Int.reduceBNe, Int.reduceMul, Int.natCast_add, Int.natCast_one, reduceCtorEq, reduceIte, b_isAgg, b_cells, t_isAgg, t_cells, yRules, List.map_append]
                rfl
            · have ho2 : ∀ st, ofOpen E o st = st := fun st => by unfold ofOpen; rw [if_neg (by simpa using hk2)]
              rw [ho2]
              refine weak_to [] [0, 1] rfl (by simp) ?_ ?_
              · simp only [vcRules, dRules, bRules, tyRules, xRules, pickV_true, pickV_false, implies_true, Nat.reduceLT, Nat.reduceLeDiff, Nat.reduceEqDiff, Nat.reduceAdd, Nat.reduceSub, Nat.reduceMul, Int.reduceToNat, Int.reduceLT, Int.reduceLE, Int.reduceEq, Int.reduceAdd, Int.reduceSub, Int.reduceNeg, Int.reduceBEq, Int.reduceBNe, Int.reduceMul, Int.natCast_add, Int.natCast_one, reduceCtorEq, reduceIte, b_isAgg, b_cells, t_isAgg, t_cells, yRules, @a_wrap ((k:Int) + 1) (by omega)]
              · simp only [vcRules, dRules, bRules, tyRules, xRules, pickV_true, pickV_false, implies_true, Nat.reduceLT, Nat.reduceLeDiff, Nat.reduceEqDiff, Nat.reduceAdd, Nat.reduceSub, Nat.reduceMul, Int.reduceToNat, Int.reduceLT, Int.reduceLE, Int.reduceEq, Int.reduceAdd, Int.reduceSub, Int.reduceNeg, Int.reduceBEq, Int.reduceBNe, Int.reduceMul, Int.natCast_add, Int.natCast_one, reduceCtorEq, reduceIte, b_isAgg, b_cells, t_isAgg, t_cells, yRules]
      · have : k = os.length := by omega
        subst this
        have hlf : (delL (fun b => decide (b.hi ≤ b.lo)) (ofRun os E os.length).1).length = (ofRun os E os.length).1.length := by
          have := List.length_filter_le (fun b : BlockT => !decide (b.hi ≤ b.lo)) (ofRun os E os.length).1
          unfold delL; simp only [List.length_append, List.length_replicate]; omega
        have hle := List.length_filter_le (fun b : BlockT => !decide (b.hi ≤ b.lo)) (ofRun os E os.length).1
        have hrl := ofRun_len os E os.length
        simp only [vcRules, dRules, bRules, tyRules, xRules, pickV_true, pickV_false, implies_true, Nat.reduceLT, Nat.reduceLeDiff, Nat.reduceEqDiff, Nat.reduceAdd, Nat.reduceSub, Nat.reduceMul, Int.reduceToNat, Int.reduceLT, Int.reduceLE, Int.reduceEq, Int.reduceAdd, Int.reduceSub, Int.reduceNeg, Int.reduceBEq, Int.reduceBNe, Int.reduceMul, Int.natCast_add, Int.natCast_one, reduceCtorEq, reduceIte, b_isAgg, b_cells, t_isAgg, t_cells, yRules, (show ¬ (os.length:Int) < os.length by omega)]
        refine callF_at1 1 (by simp) rfl (c29 30 _ c30 _ (by omega)) fun r s hr => ?_
        obtain ⟨rfl, rfl⟩ := hr
        simp only [vcRules, dRules, bRules, tyRules, xRules, pickV_true, pickV_false, implies_true, Nat.reduceLT, Nat.reduceLeDiff, Nat.reduceEqDiff, Nat.reduceAdd, Nat.reduceSub, Nat.reduceMul, Int.reduceToNat, Int.reduceLT, Int.reduceLE, Int.reduceEq, Int.reduceAdd, Int.reduceSub, Int.reduceNeg, Int.reduceBEq, Int.reduceBNe, Int.reduceMul, Int.natCast_add, Int.natCast_one, reduceCtorEq, reduceIte, b_isAgg, b_cells, t_isAgg, t_cells, yRules]
        refine callF_at1 1 (by simp) rfl (sort31 _ _ (by rw [hlf]; exact hle) (by omega)) fun r s hr => ?_
        obtain ⟨rfl, rfl⟩ := hr
        simp only [vcRules, dRules, bRules, tyRules, xRules, pickV_true, pickV_false, implies_true, Nat.reduceLT, Nat.reduceLeDiff, Nat.reduceEqDiff, Nat.reduceAdd, Nat.reduceSub, Nat.reduceMul, Int.reduceToNat, Int.reduceLT, Int.reduceLE, Int.reduceEq, Int.reduceAdd, Int.reduceSub, Int.reduceNeg, Int.reduceBEq, Int.reduceBNe, Int.reduceMul, Int.natCast_add, Int.natCast_one, reduceCtorEq, reduceIte, b_isAgg, b_cells, t_isAgg, t_cells, yRules]
        refine ⟨_, _, ret_data rfl ?_, rfl, rfl⟩
        have hfl : (sortF loB ((ofRun os E os.length).1.filter fun b => !decide (b.hi ≤ b.lo))).length = ((ofRun os E os.length).1.filter fun b => !decide (b.hi ≤ b.lo)).length := sortF_length _ _
        simp only [vcRules, dRules, bRules, tyRules, xRules, pickV_true, pickV_false, implies_true, Nat.reduceLT, Nat.reduceLeDiff, Nat.reduceEqDiff, Nat.reduceAdd, Nat.reduceSub, Nat.reduceMul, Int.reduceToNat, Int.reduceLT, Int.reduceLE, Int.reduceEq, Int.reduceAdd, Int.reduceSub, Int.reduceNeg, Int.reduceBEq, Int.reduceBNe, Int.reduceMul, Int.natCast_add, Int.natCast_one, reduceCtorEq, reduceIte, b_isAgg, b_cells, t_isAgg, t_cells, yRules, delL, List.take_left, List.drop_left]
        rw [← List.map_take, ← hfl, List.take_left, ofF, hE]; rfl
  · have e1 : IntKind.i64.wrap ((os.length : Int) - 1) = ((os.length - 1 : Nat) : Int) := by rw [wrap64 (by omega) (by omega)]; omega
    refine acalls_of Try.func11 rfl rfl (by simp [Try.ntmps11]) (evC_sound rfl _ _ _ _ ?_)
    simp only [Try.ntmps11, Try.results11, argEnv, List.length_nil]
    simp only [vcRules, dRules, bRules, tyRules, xRules, pickV_true, pickV_false, implies_true, Nat.reduceLT, Nat.reduceLeDiff, Nat.reduceEqDiff, Nat.reduceAdd, Nat.reduceSub, Nat.reduceMul, Int.reduceToNat, Int.reduceLT, Int.reduceLE, Int.reduceEq, Int.reduceAdd, Int.reduceSub, Int.reduceNeg, Int.reduceBEq, Int.reduceBNe, Int.reduceMul, Int.natCast_add, Int.natCast_one, reduceCtorEq, reduceIte, b_isAgg, b_cells, t_isAgg, t_cells, yRules, (show (0:Int) < os.length by omega), e1, (show os.length - 1 < os.length by omega), (show ((os.length - 1 : Nat) : Int) < os.length by omega), a_getD _ _ _ (show os.length - 1 < os.length by omega)]
    refine callF_pure (c28 _) ?_
    have hE : max 0 (min (max e (timeF (os.getD (os.length - 1) default))) 1000000000000) = endF os e := by rw [endF, if_neg hn]
    simp only [vcRules, dRules, bRules, tyRules, xRules, pickV_true, pickV_false, implies_true, Nat.reduceLT, Nat.reduceLeDiff, Nat.reduceEqDiff, Nat.reduceAdd, Nat.reduceSub, Nat.reduceMul, Int.reduceToNat, Int.reduceLT, Int.reduceLE, Int.reduceEq, Int.reduceAdd, Int.reduceSub, Int.reduceNeg, Int.reduceBEq, Int.reduceBNe, Int.reduceMul, Int.natCast_add, Int.natCast_one, reduceCtorEq, reduceIte, b_isAgg, b_cells, t_isAgg, t_cells, yRules, y_mapN0, hE]
    repeat ((with_reducible refine And.intro ?_ ?_); (focus (first | omega | (intros; simp_all; done) | kernel_rfl)))
    clear hE
    generalize hE : endF os e = E
    refine for_of os.length (fun k => [(1, .d (.int .i64 E)), (5, .osl 1 0 (ofRun os E k).1.length), (6, .mapr 0), (28, .d (.sl (os.map TimedT.toD))), (29, .d (.int .i64 os.length)), (30, .d (.int .i64 k))]) (fun k => [.map (some .i64) (mapN (ofRun os E k).2), .arr 7 ((ofRun os E k).1.map BlockT.toD)]) (fun _ => True) trivial ?_ ?_
    · refine (weak_nils 5 7 rfl).trans ?_
      refine weak_to [] [0, 1] rfl (by simp) ?_ ?_
      · simp only [vcRules, dRules, bRules, tyRules, xRules, pickV_true, pickV_false, implies_true, Nat.reduceLT, Nat.reduceLeDiff, Nat.reduceEqDiff, Nat.reduceAdd, Nat.reduceSub, Nat.reduceMul, Int.reduceToNat, Int.reduceLT, Int.reduceLE, Int.reduceEq, Int.reduceAdd, Int.reduceSub, Int.reduceNeg, Int.reduceBEq, Int.reduceBNe, Int.reduceMul, Int.natCast_add, Int.natCast_one, reduceCtorEq, reduceIte, b_isAgg, b_cells, t_isAgg, t_cells, yRules, Int.cast_ofNat_Int, ofRun]
      · simp only [vcRules, dRules, bRules, tyRules, xRules, pickV_true, pickV_false, implies_true, Nat.reduceLT, Nat.reduceLeDiff, Nat.reduceEqDiff, Nat.reduceAdd, Nat.reduceSub, Nat.reduceMul, Int.reduceToNat, Int.reduceLT, Int.reduceLE, Int.reduceEq, Int.reduceAdd, Int.reduceSub, Int.reduceNeg, Int.reduceBEq, Int.reduceBNe, Int.reduceMul, Int.natCast_add, Int.natCast_one, reduceCtorEq, reduceIte, b_isAgg, b_cells, t_isAgg, t_cells, yRules, ofRun]
    · intro k _ hk
      by_cases h : k < os.length
      · obtain ⟨st, hst⟩ : ∃ st, st = ofRun os E k := ⟨_, rfl⟩
        have hok : OfOk st := by rw [hst]; exact ofRun_ok os E k
        have hlen : st.1.length ≤ k := by rw [hst]; exact ofRun_len os E k
        have hstep : ofRun os E (k + 1) = ofStep E (os.getD k default) st := by rw [hst]; rfl
        rw [hstep, ← hst]
        obtain ⟨o, ho⟩ : ∃ o, o = os.getD k default := ⟨_, rfl⟩
        rw [← ho]
        simp only [vcRules, dRules, bRules, tyRules, xRules, pickV_true, pickV_false, implies_true, Nat.reduceLT, Nat.reduceLeDiff, Nat.reduceEqDiff, Nat.reduceAdd, Nat.reduceSub, Nat.reduceMul, Int.reduceToNat, Int.reduceLT, Int.reduceLE, Int.reduceEq, Int.reduceAdd, Int.reduceSub, Int.reduceNeg, Int.reduceBEq, Int.reduceBNe, Int.reduceMul, Int.natCast_add, Int.natCast_one, reduceCtorEq, reduceIte, b_isAgg, b_cells, t_isAgg, t_cells, yRules, (show (k:Int) < os.length by omega), h, a_getD _ _ _ (show k < os.length by omega), ← ho]
        repeat ((with_reducible refine And.intro ?_ ?_); (focus (first | omega | (intros; simp_all; done) | kernel_rfl)))
        refine ifC.mk (fun hk => ?_) (fun hk => ?_)
        · have hk' : ¬ (o.kind = 11 ∨ o.kind = 12) := by simpa using hk
          have hs : ofStep E o st = st := by unfold ofStep; rw [if_neg hk']
          rw [hs]
          refine weak_to [] [0, 1] rfl (by simp) ?_ ?_
          · simp only [vcRules, dRules, bRules, tyRules, xRules, pickV_true, pickV_false, implies_true, Nat.reduceLT, Nat.reduceLeDiff, Nat.reduceEqDiff, Nat.reduceAdd, Nat.reduceSub, Nat.reduceMul, Int.reduceToNat, Int.reduceLT, Int.reduceLE, Int.reduceEq, Int.reduceAdd, Int.reduceSub, Int.reduceNeg, Int.reduceBEq, Int.reduceBNe, Int.reduceMul, Int.natCast_add, Int.natCast_one, reduceCtorEq, reduceIte, b_isAgg, b_cells, t_isAgg, t_cells, yRules, @a_wrap ((k:Int) + 1) (by omega)]
          · simp only [vcRules, dRules, bRules, tyRules, xRules, pickV_true, pickV_false, implies_true, Nat.reduceLT, Nat.reduceLeDiff, Nat.reduceEqDiff, Nat.reduceAdd, Nat.reduceSub, Nat.reduceMul, Int.reduceToNat, Int.reduceLT, Int.reduceLE, Int.reduceEq, Int.reduceAdd, Int.reduceSub, Int.reduceNeg, Int.reduceBEq, Int.reduceBNe, Int.reduceMul, Int.natCast_add, Int.natCast_one, reduceCtorEq, reduceIte, b_isAgg, b_cells, t_isAgg, t_cells, yRules]
        · have hk' : o.kind = 11 ∨ o.kind = 12 := by simp at hk; omega
          have hs : ofStep E o st = ofOpen E o (ofClose o st) := by unfold ofStep; rw [if_pos hk']
          rw [hs]
          rcases hg : st.2 o.n with _ | i
          · have hc : ofClose o st = st := by unfold ofClose; rw [hg]
            rw [hc]
            simp only [vcRules, dRules, bRules, tyRules, xRules, pickV_true, pickV_false, implies_true, Nat.reduceLT, Nat.reduceLeDiff, Nat.reduceEqDiff, Nat.reduceAdd, Nat.reduceSub, Nat.reduceMul, Int.reduceToNat, Int.reduceLT, Int.reduceLE, Int.reduceEq, Int.reduceAdd, Int.reduceSub, Int.reduceNeg, Int.reduceBEq, Int.reduceBNe, Int.reduceMul, Int.natCast_add, Int.natCast_one, reduceCtorEq, reduceIte, b_isAgg, b_cells, t_isAgg, t_cells, yRules, hg]
            repeat ((with_reducible refine And.intro ?_ ?_); (focus (first | omega | (intros; simp_all; done) | kernel_rfl)))
            have ta : True := trivial
            refine ifC.mk (fun hk2 => ?_) (fun hk2 => ?_)
            · refine ⟨by kernel_rfl, callF_pure (c28 _) ?_⟩
              simp only [vcRules, dRules, bRules, tyRules, xRules, pickV_true, pickV_false, implies_true, Nat.reduceLT, Nat.reduceLeDiff, Nat.reduceEqDiff, Nat.reduceAdd, Nat.reduceSub, Nat.reduceMul, Int.reduceToNat, Int.reduceLT, Int.reduceLE, Int.reduceEq, Int.reduceAdd, Int.reduceSub, Int.reduceNeg, Int.reduceBEq, Int.reduceBNe, Int.reduceMul, Int.natCast_add, Int.natCast_one, reduceCtorEq, reduceIte, b_isAgg, b_cells, t_isAgg, t_cells, yRules, take_all, ta]
              repeat ((with_reducible refine And.intro ?_ ?_); (focus (first | omega | (intros; simp_all; done) | kernel_rfl)))
              have ho2 : ∀ st, ofOpen E o st = (st.1 ++ [⟨o.n, o.thread, o.m, timeF o, E, o.stack, true⟩], updN st.2 o.n (some st.1.length)) := fun st => by unfold ofOpen; rw [if_pos (by simpa using hk2)]
              rw [ho2]
              refine weak_to [] [0, 4] rfl (by simp) ?_ ?_
              · simp only [vcRules, dRules, bRules, tyRules, xRules, pickV_true, pickV_false, implies_true, Nat.reduceLT, Nat.reduceLeDiff, Nat.reduceEqDiff, Nat.reduceAdd, Nat.reduceSub, Nat.reduceMul, Int.reduceToNat, Int.reduceLT, Int.reduceLE, Int.reduceEq, Int.reduceAdd, Int.reduceSub, Int.reduceNeg, Int.reduceBEq, Int.reduceBNe, Int.reduceMul, Int.natCast_add, Int.natCast_one, reduceCtorEq, reduceIte, b_isAgg, b_cells, t_isAgg, t_cells, yRules, @a_wrap ((k:Int) + 1) (by omega)]
              · simp only [vcRules, dRules, bRules, tyRules, xRules, pickV_true, pickV_false, implies_true, Nat.reduceLT, Nat.reduceLeDiff, Nat.reduceEqDiff, Nat.reduceAdd, Nat.reduceSub, Nat.reduceMul, Int.reduceToNat, Int.reduceLT, Int.reduceLE, Int.reduceEq, Int.reduceAdd, Int.reduceSub, Int.reduceNeg, Int.reduceBEq, Int.reduceBNe, Int.reduceMul, Int.natCast_add, Int.natCast_one, reduceCtorEq, reduceIte, b_isAgg, b_cells, t_isAgg, t_cells, yRules, List.map_append]
                rfl
            · have ho2 : ∀ st, ofOpen E o st = st := fun st => by unfold ofOpen; rw [if_neg (by simpa using hk2)]
              rw [ho2]
              refine weak_to [] [0, 1] rfl (by simp) ?_ ?_
              · simp only [vcRules, dRules, bRules, tyRules, xRules, pickV_true, pickV_false, implies_true, Nat.reduceLT, Nat.reduceLeDiff, Nat.reduceEqDiff, Nat.reduceAdd, Nat.reduceSub, Nat.reduceMul, Int.reduceToNat, Int.reduceLT, Int.reduceLE, Int.reduceEq, Int.reduceAdd, Int.reduceSub, Int.reduceNeg, Int.reduceBEq, Int.reduceBNe, Int.reduceMul, Int.natCast_add, Int.natCast_one, reduceCtorEq, reduceIte, b_isAgg, b_cells, t_isAgg, t_cells, yRules, @a_wrap ((k:Int) + 1) (by omega)]
              · simp only [vcRules, dRules, bRules, tyRules, xRules, pickV_true, pickV_false, implies_true, Nat.reduceLT, Nat.reduceLeDiff, Nat.reduceEqDiff, Nat.reduceAdd, Nat.reduceSub, Nat.reduceMul, Int.reduceToNat, Int.reduceLT, Int.reduceLE, Int.reduceEq, Int.reduceAdd, Int.reduceSub, Int.reduceNeg, Int.reduceBEq, Int.reduceBNe, Int.reduceMul, Int.natCast_add, Int.natCast_one, reduceCtorEq, reduceIte, b_isAgg, b_cells, t_isAgg, t_cells, yRules]
          · have hi : i < st.1.length := hok _ _ hg
            have hc : ofClose o st = (st.1.set i (closeB (st.1.getD i default) (timeF o)), updN st.2 o.n none) := by unfold ofClose; rw [hg]
            rw [hc]
            simp only [vcRules, dRules, bRules, tyRules, xRules, pickV_true, pickV_false, implies_true, Nat.reduceLT, Nat.reduceLeDiff, Nat.reduceEqDiff, Nat.reduceAdd, Nat.reduceSub, Nat.reduceMul, Int.reduceToNat, Int.reduceLT, Int.reduceLE, Int.reduceEq, Int.reduceAdd, Int.reduceSub, Int.reduceNeg, Int.reduceBEq, Int.reduceBNe, Int.reduceMul, Int.natCast_add, Int.natCast_one, reduceCtorEq, reduceIte, b_isAgg, b_cells, t_isAgg, t_cells, yRules, hg]
            repeat ((with_reducible refine And.intro ?_ ?_); (focus (first | omega | (intros; simp_all; done) | kernel_rfl)))
            refine callF_pure (c28 _) ?_
            have z : D.agg [.int .i64 (st.1.getD i default).id, .int .i64 (st.1.getD i default).thread, .int .i64 (st.1.getD i default).size, .int .i64 (st.1.getD i default).lo, .int .i64 (timeF o), .sl ((st.1.getD i default).stack.map .str), .bool false] = (closeB (st.1.getD i default) (timeF o)).toD := rfl
            simp only [vcRules, dRules, bRules, tyRules, xRules, pickV_true, pickV_false, implies_true, Nat.reduceLT, Nat.reduceLeDiff, Nat.reduceEqDiff, Nat.reduceAdd, Nat.reduceSub, Nat.reduceMul, Int.reduceToNat, Int.reduceLT, Int.reduceLE, Int.reduceEq, Int.reduceAdd, Int.reduceSub, Int.reduceNeg, Int.reduceBEq, Int.reduceBNe, Int.reduceMul, Int.natCast_add, Int.natCast_one, reduceCtorEq, reduceIte, b_isAgg, b_cells, t_isAgg, t_cells, yRules, (show (i:Int) < st.1.length by omega), hi, a_getD _ _ _ (show i < st.1.length by omega), getD_set _ _ _ _ (show i < (st.1.map BlockT.toD).length by rw [List.length_map]; exact hi), List.set_set, z, ← List.map_set]
            repeat ((with_reducible refine And.intro ?_ ?_); (focus (first | omega | (intros; simp_all; done) | kernel_rfl)))
            have ta : ∀ x, ((st.1.set i x).map BlockT.toD).take st.1.length = (st.1.set i x).map BlockT.toD := fun x => List.take_of_length_le (by simp)
            refine ifC.mk (fun hk2 => ?_) (fun hk2 => ?_)
            · refine ⟨by kernel_rfl, callF_pure (c28 _) ?_⟩
              simp only [vcRules, dRules, bRules, tyRules, xRules, pickV_true, pickV_false, implies_true, Nat.reduceLT, Nat.reduceLeDiff, Nat.reduceEqDiff, Nat.reduceAdd, Nat.reduceSub, Nat.reduceMul, Int.reduceToNat, Int.reduceLT, Int.reduceLE, Int.reduceEq, Int.reduceAdd, Int.reduceSub, Int.reduceNeg, Int.reduceBEq, Int.reduceBNe, Int.reduceMul, Int.natCast_add, Int.natCast_one, reduceCtorEq, reduceIte, b_isAgg, b_cells, t_isAgg, t_cells, yRules, take_all, ta]
              repeat ((with_reducible refine And.intro ?_ ?_); (focus (first | omega | (intros; simp_all; done) | kernel_rfl)))
              have ho2 : ∀ st, ofOpen E o st = (st.1 ++ [⟨o.n, o.thread, o.m, timeF o, E, o.stack, true⟩], updN st.2 o.n (some st.1.length)) := fun st => by unfold ofOpen; rw [if_pos (by simpa using hk2)]
              rw [ho2]
              refine weak_to [] [0, 4] rfl (by simp) ?_ ?_
              · simp only [vcRules, dRules, bRules, tyRules, xRules, pickV_true, pickV_false, implies_true, Nat.reduceLT, Nat.reduceLeDiff, Nat.reduceEqDiff, Nat.reduceAdd, Nat.reduceSub, Nat.reduceMul, Int.reduceToNat, Int.reduceLT, Int.reduceLE, Int.reduceEq, Int.reduceAdd, Int.reduceSub, Int.reduceNeg, Int.reduceBEq, Int.reduceBNe, Int.reduceMul, Int.natCast_add, Int.natCast_one, reduceCtorEq, reduceIte, b_isAgg, b_cells, t_isAgg, t_cells, yRules, @a_wrap ((k:Int) + 1) (by omega)]
              · simp only [vcRules, dRules, bRules, tyRules, xRules, pickV_true, pickV_false, implies_true, Nat.reduceLT, Nat.reduceLeDiff, Nat.reduceEqDiff, Nat.reduceAdd, Nat.reduceSub, Nat.reduceMul, Int.reduceToNat, Int.reduceLT, Int.reduceLE, Int.reduceEq, Int.reduceAdd, Int.reduceSub, Int.reduceNeg, Int.reduceBEq, Int.reduceBNe, Int.reduceMul, Int.natCast_add, Int.natCast_one, reduceCtorEq, reduceIte, b_isAgg, b_cells, t_isAgg, t_cells, yRules, List.map_append]
                rfl
            · have ho2 : ∀ st, ofOpen E o st = st := fun st => by unfold ofOpen; rw [if_neg (by simpa using hk2)]
              rw [ho2]
              refine weak_to [] [0, 1] rfl (by simp) ?_ ?_
              · simp only [vcRules, dRules, bRules, tyRules, xRules, pickV_true, pickV_false, implies_true, Nat.reduceLT, Nat.reduceLeDiff, Nat.reduceEqDiff, Nat.reduceAdd, Nat.reduceSub, Nat.reduceMul, Int.reduceToNat, Int.reduceLT, Int.reduceLE, Int.reduceEq, Int.reduceAdd, Int.reduceSub, Int.reduceNeg, Int.reduceBEq, Int.reduceBNe, Int.reduceMul, Int.natCast_add, Int.natCast_one, reduceCtorEq, reduceIte, b_isAgg, b_cells, t_isAgg, t_cells, yRules, @a_wrap ((k:Int) + 1) (by omega)]
              · simp only [vcRules, dRules, bRules, tyRules, xRules, pickV_true, pickV_false, implies_true, Nat.reduceLT, Nat.reduceLeDiff, Nat.reduceEqDiff, Nat.reduceAdd, Nat.reduceSub, Nat.reduceMul, Int.reduceToNat, Int.reduceLT, Int.reduceLE, Int.reduceEq, Int.reduceAdd, Int.reduceSub, Int.reduceNeg, Int.reduceBEq, Int.reduceBNe, Int.reduceMul, Int.natCast_add, Int.natCast_one, reduceCtorEq, reduceIte, b_isAgg, b_cells, t_isAgg, t_cells, yRules]
      · have : k = os.length := by omega
        subst this
        have hlf : (delL (fun b => decide (b.hi ≤ b.lo)) (ofRun os E os.length).1).length = (ofRun os E os.length).1.length := by
          have := List.length_filter_le (fun b : BlockT => !decide (b.hi ≤ b.lo)) (ofRun os E os.length).1
          unfold delL; simp only [List.length_append, List.length_replicate]; omega
        have hle := List.length_filter_le (fun b : BlockT => !decide (b.hi ≤ b.lo)) (ofRun os E os.length).1
        have hrl := ofRun_len os E os.length
        simp only [vcRules, dRules, bRules, tyRules, xRules, pickV_true, pickV_false, implies_true, Nat.reduceLT, Nat.reduceLeDiff, Nat.reduceEqDiff, Nat.reduceAdd, Nat.reduceSub, Nat.reduceMul, Int.reduceToNat, Int.reduceLT, Int.reduceLE, Int.reduceEq, Int.reduceAdd, Int.reduceSub, Int.reduceNeg, Int.reduceBEq, Int.reduceBNe, Int.reduceMul, Int.natCast_add, Int.natCast_one, reduceCtorEq, reduceIte, b_isAgg, b_cells, t_isAgg, t_cells, yRules, (show ¬ (os.length:Int) < os.length by omega)]
        refine callF_at1 1 (by simp) rfl (c29 30 _ c30 _ (by omega)) fun r s hr => ?_
        obtain ⟨rfl, rfl⟩ := hr
        simp only [vcRules, dRules, bRules, tyRules, xRules, pickV_true, pickV_false, implies_true, Nat.reduceLT, Nat.reduceLeDiff, Nat.reduceEqDiff, Nat.reduceAdd, Nat.reduceSub, Nat.reduceMul, Int.reduceToNat, Int.reduceLT, Int.reduceLE, Int.reduceEq, Int.reduceAdd, Int.reduceSub, Int.reduceNeg, Int.reduceBEq, Int.reduceBNe, Int.reduceMul, Int.natCast_add, Int.natCast_one, reduceCtorEq, reduceIte, b_isAgg, b_cells, t_isAgg, t_cells, yRules]
        refine callF_at1 1 (by simp) rfl (sort31 _ _ (by rw [hlf]; exact hle) (by omega)) fun r s hr => ?_
        obtain ⟨rfl, rfl⟩ := hr
        simp only [vcRules, dRules, bRules, tyRules, xRules, pickV_true, pickV_false, implies_true, Nat.reduceLT, Nat.reduceLeDiff, Nat.reduceEqDiff, Nat.reduceAdd, Nat.reduceSub, Nat.reduceMul, Int.reduceToNat, Int.reduceLT, Int.reduceLE, Int.reduceEq, Int.reduceAdd, Int.reduceSub, Int.reduceNeg, Int.reduceBEq, Int.reduceBNe, Int.reduceMul, Int.natCast_add, Int.natCast_one, reduceCtorEq, reduceIte, b_isAgg, b_cells, t_isAgg, t_cells, yRules]
        refine ⟨_, _, ret_data rfl ?_, rfl, rfl⟩
        have hfl : (sortF loB ((ofRun os E os.length).1.filter fun b => !decide (b.hi ≤ b.lo))).length = ((ofRun os E os.length).1.filter fun b => !decide (b.hi ≤ b.lo)).length := sortF_length _ _
        simp only [vcRules, dRules, bRules, tyRules, xRules, pickV_true, pickV_false, implies_true, Nat.reduceLT, Nat.reduceLeDiff, Nat.reduceEqDiff, Nat.reduceAdd, Nat.reduceSub, Nat.reduceMul, Int.reduceToNat, Int.reduceLT, Int.reduceLE, Int.reduceEq, Int.reduceAdd, Int.reduceSub, Int.reduceNeg, Int.reduceBEq, Int.reduceBNe, Int.reduceMul, Int.natCast_add, Int.natCast_one, reduceCtorEq, reduceIte, b_isAgg, b_cells, t_isAgg, t_cells, yRules, delL, List.take_left, List.drop_left]
        rw [← List.map_take, ← hfl, List.take_left, ofF, hE]; rfl
end Ytgebmgahfpnjaaa
end Go.Proofs
