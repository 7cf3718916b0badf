/- A part of the proof: contracts of functions of this seat, and lemmas. No condition beyond those stated. -/
import Derived.Test.YtccgdcmgjdhikaaGreatWzy
import Derived.Test.YtccgdcmgjdhikaaGreatWzbt
set_option linter.unusedVariables false
set_option linter.unusedSimpArgs false
set_option linter.unusedSectionVars false
set_option linter.unnecessarySimpa false
set_option linter.unusedSimpArgs false
set_option linter.unusedVariables false
set_option maxRecDepth 100000
namespace Go.Proofs
open Go.AM
namespace YtccgdcmgjdhikaaGreat
variable {Gl : Globs}
/-! ### sets of spans: the reference -/
def covB (l : List (Int × Int)) (t : Int) : Bool := l.any fun x => okSpan x.1 x.2 && decide (x.1 ≤ t) && decide (t < x.2)
def putS (n : Int) (st : List Int × Bool) (x : Int) : List Int × Bool :=
  let st1 := if (!st.2 && decide (n ≤ x)) = true then (st.1 ++ [n], true) else st
  if x ≠ n then (st1.1 ++ [x], st1.2) else st1
def putW (l : List Int) (n : Int) : List Int × Bool := l.foldl (putS n) ([], false)
def putF (l : List Int) (n : Int) : List Int := if (putW l n).2 = true then (putW l n).1 else (putW l n).1 ++ [n]
def endS (out : List Int) (x : Int × Int) : List Int := if okSpan x.1 x.2 = true then putF (putF out x.1) x.2 else out
def endF (a b : List (Int × Int)) : List Int := (a ++ b).foldl endS []
def holdsF (a b : List (Int × Int)) (op t : Int) : Bool := (op == 1 && (covB a t || covB b t)) || (op == 2 && covB a t && covB b t) || (op == 3 && covB a t && !covB b t)
def combS (a b : List (Int × Int)) (op : Int) (cut : List Int) (out : List (Int × Int)) (i : Nat) : List (Int × Int) :=
  if holdsF a b op (cut.getD i default) = false then out
  else if (decide (0 < out.length) && ((out.getD (out.length - 1) default).2 == cut.getD i default)) = true then out.set (out.length - 1) ((out.getD (out.length - 1) default).1, cut.getD (i + 1) default)
  else out ++ [(cut.getD i default, cut.getD (i + 1) default)]
def combF (a b : List (Int × Int)) (op : Int) : List (Int × Int) := (List.range ((endF a b).length - 1)).foldl (combS a b op (endF a b)) []
def lenF (l : List (Int × Int)) : Int := (combF l [] 1).foldl (fun n x => n + x.2 - x.1) 0
/-- sorted insertion -/
def insS : List Int → Int → List Int
  | [], n => [n]
  | x :: r, n => if n < x then n :: x :: r else if n = x then x :: r else x :: insS r n
theorem putW_done (n : Int) : ∀ (l : List Int) (o : List Int), (∀ x ∈ l, x ≠ n) → l.foldl (putS n) (o, true) = (o ++ l, true)
  | [], o, _ => by simp
  | x :: r, o, h => by
    have hx := h x List.mem_cons_self
    have : putS n (o, true) x = (o ++ [x], true) := by simp [putS, hx]
    rw [List.foldl_cons, this, putW_done n r _ (fun y hy => h y (List.mem_cons_of_mem _ hy))]
    simp
theorem putW_ins (n : Int) : ∀ (l : List Int) (o : List Int), l.Pairwise (· < ·) →
    (if (l.foldl (putS n) (o, false)).2 = true then (l.foldl (putS n) (o, false)).1 else (l.foldl (putS n) (o, false)).1 ++ [n]) = o ++ insS l n
  | [], o, _ => by simp [insS]
  | x :: r, o, h => by
    obtain ⟨h1, h2⟩ := List.pairwise_cons.1 h
    unfold insS
    by_cases a : n < x
    · have e : putS n (o, false) x = (o ++ [n, x], true) := by
        have : n ≤ x := by omega
        have : x ≠ n := by omega
        simp [putS, *]
      rw [List.foldl_cons, e, putW_done n r _ (fun y hy => by have := h1 y hy; omega), if_pos a]
      simp
    · by_cases b : n = x
      · have e : putS n (o, false) x = (o ++ [n], true) := by
          subst b
          simp [putS]
        rw [List.foldl_cons, e, putW_done n r _ (fun y hy => by have := h1 y hy; omega), if_neg a, if_pos b]
        simp [b]
      · have e : putS n (o, false) x = (o ++ [x], false) := by
          have : ¬ n ≤ x := by omega
          have : x ≠ n := by omega
          simp [putS, *]
        rw [List.foldl_cons, e, putW_ins n r _ h2, if_neg a, if_neg b]
        simp
theorem putF_ins (n : Int) (l : List Int) (h : l.Pairwise (· < ·)) : putF l n = insS l n := by
  have := putW_ins n l [] h
  rw [List.nil_append] at this
  exact this
theorem insS_mem {n y : Int} : ∀ {l : List Int}, y ∈ insS l n ↔ y = n ∨ y ∈ l
  | [] => by simp [insS]
  | x :: r => by
    unfold insS
    split
    · simp
    · split
      · rename_i h; subst h; simp
      · simp [insS_mem (l := r)]; constructor <;> (rintro (h | h | h) <;> simp [h])
theorem insS_srt {n : Int} : ∀ {l : List Int}, l.Pairwise (· < ·) → (insS l n).Pairwise (· < ·)
  | [], _ => by simp [insS]
  | x :: r, h => by
    obtain ⟨h1, h2⟩ := List.pairwise_cons.1 h
    unfold insS
    split
    · exact List.pairwise_cons.2 ⟨fun y hy => by rcases List.mem_cons.1 hy with rfl | hy; (· omega); (· have := h1 y hy; omega), h⟩
    · split
      · exact h
      · exact List.pairwise_cons.2 ⟨fun y hy => by rcases insS_mem.1 hy with rfl | hy; (· omega); (· exact h1 y hy), insS_srt h2⟩
theorem endF_one {a b : Int} (h : okSpan a b = true) : endF [(a, b)] [] = [a, b] := by
  have hab : a < b := by simp [okSpan] at h; omega
  simp only [endF, List.append_nil, List.foldl_cons, List.foldl_nil, endS, h, if_true]
  rw [putF_ins _ [] List.Pairwise.nil]
  rw [putF_ins _ _ (insS_srt List.Pairwise.nil)]
  have : ¬ b < a := by omega
  have : ¬ b = a := by omega
  simp [insS, *]
theorem lenF_nil : lenF [] = 0 := rfl
theorem lenF_one {a b : Int} (h : okSpan a b = true) : lenF [(a, b)] = b - a := by
  have hab : a < b := by simp [okSpan] at h; omega
  have hc : covB [(a, b)] a = true := by simp [covB, h, hab]
  unfold lenF combF
  rw [endF_one h]
  simp [List.range_succ, combS, holdsF, hc]
theorem endF_two {a b c d : Int} (h : okSpan a b = true) (k : okSpan c d = true) : endF [(a, b)] [(c, d)] = insS (insS [a, b] c) d := by
  have hab : a < b := by simp [okSpan] at h; omega
  have s2 : [a, b].Pairwise (· < ·) := by simp [hab]
  have e := endF_one h
  simp only [endF, List.append_nil, List.foldl_cons, List.foldl_nil] at e
  simp only [endF, List.cons_append, List.nil_append, List.foldl_cons, List.foldl_nil]
  rw [e]
  simp only [endS, k, if_true]
  rw [putF_ins _ _ s2, putF_ins _ _ (insS_srt s2)]
theorem cov_one {a b t : Int} (h : okSpan a b = true) : covB [(a, b)] t = (decide (a ≤ t) && decide (t < b)) := by simp [covB, h]
def stepL (a b : List (Int × Int)) (op : Int) (out : List (Int × Int)) (x y : Int) : List (Int × Int) :=
  if holdsF a b op x = false then out
  else if (decide (0 < out.length) && ((out.getD (out.length - 1) default).2 == x)) = true then out.set (out.length - 1) ((out.getD (out.length - 1) default).1, y)
  else out ++ [(x, y)]
def combL (a b : List (Int × Int)) (op : Int) (out : List (Int × Int)) : List Int → List (Int × Int)
  | x :: y :: r => combL a b op (stepL a b op out x y) (y :: r)
  | _ => out
theorem comb_eq (a b : List (Int × Int)) (op : Int) : ∀ (cut : List Int) (out : List (Int × Int)), (List.range (cut.length - 1)).foldl (combS a b op cut) out = combL a b op out cut
  | [], out => rfl
  | [x], out => rfl
  | x :: y :: r, out => by
    have e : (x :: y :: r).length - 1 = ((y :: r).length - 1) + 1 := by simp
    rw [e, List.range_succ_eq_map, List.foldl_cons, List.foldl_map, combL, ← comb_eq a b op (y :: r)]
    have e2 : combS a b op (x :: y :: r) out 0 = stepL a b op out x y := rfl
    have e3 : (fun (o : List (Int × Int)) (i : Nat) => combS a b op (x :: y :: r) o i.succ) = combS a b op (y :: r) := by
      funext o i
      simp only [combS, Nat.succ_eq_add_one, List.getD_cons_succ]
    rw [e2, e3]
set_option maxHeartbeats 4000000 in
theorem meet_two {a b c d : Int} (h : okSpan a b = true) (k : okSpan c d = true) :
    combF [(a, b)] [(c, d)] 2 = if max a c < min b d then [(max a c, min b d)] else [] := by
  have hab : a < b := by simp [okSpan] at h; omega
  have hcd : c < d := by simp [okSpan] at k; omega
  have hh : ∀ t, holdsF [(a, b)] [(c, d)] 2 t = (decide (a ≤ t) && decide (t < b) && (decide (c ≤ t) && decide (t < d))) := fun t => by simp [holdsF, cov_one h, cov_one k]
  have no : ∀ out t y, ¬ (a ≤ t ∧ t < b ∧ c ≤ t ∧ t < d) → stepL [(a, b)] [(c, d)] 2 out t y = out := fun out t y hn => by
    have : holdsF [(a, b)] [(c, d)] 2 t = false := by
      rw [hh]
      cases e : (decide (a ≤ t) && decide (t < b) && (decide (c ≤ t) && decide (t < d)))
      · rfl
      · simp at e; omega
    unfold stepL
    rw [if_pos this]
  have yes : ∀ t y, a ≤ t ∧ t < b ∧ c ≤ t ∧ t < d → stepL [(a, b)] [(c, d)] 2 [] t y = [(t, y)] := fun t y hn => by
    have : holdsF [(a, b)] [(c, d)] 2 t = true := by rw [hh]; simp; omega
    unfold stepL
    rw [if_neg (by rw [this]; simp)]
    simp
  unfold combF
  rw [comb_eq, endF_two h k]
  clear hh
  rcases Int.lt_trichotomy c a with q1 | q1 | q1 <;> rcases Int.lt_trichotomy c b with q2 | q2 | q2 <;> rcases Int.lt_trichotomy d a with q3 | q3 | q3 <;> rcases Int.lt_trichotomy d b with q4 | q4 | q4 <;> try omega
  all_goals simp (disch := omega) only [insS, if_pos, if_neg, Int.max_def, Int.min_def, combL, no, yes]
  all_goals try (simp only [List.cons.injEq, Prod.mk.injEq, and_true]; omega)

theorem len_meet {a b c d : Int} (h : okSpan a b = true) (k : okSpan c d = true) : lenF (combF [(a, b)] [(c, d)] 2) = max 0 (min b d - max a c) := by
  rw [meet_two h k]
  split
  · have : okSpan (max a c) (min b d) = true := by simp [okSpan] at *; omega
    rw [lenF_one this]
    omega
  · rw [lenF_nil]; omega

theorem k_Covers (l : List (Int × Int)) (t : Int) (hl : l.length < 1000000) : Pure Tryz.prog Gl 132 [.d (.sl (l.map pD)), .d (.int .i64 t)] (.d (.bool (covB l t))) := by
  refine Pure.of2 ?_
  refine acalls_of Tryz.func132 rfl rfl (by simp [Tryz.ntmps132]) (evC_sound rfl _ _ _ _ ?_)
  simp only [Tryz.ntmps132, Tryz.results132, argEnv, List.length_nil]
  simp only [zC, seval, implies_true, Nat.reduceLeDiff, Nat.reduceEqDiff, reduceCtorEq, reduceIte]
  refine for_of l.length (fun k => [(0, .d (.sl (l.map pD))), (1, .d (.int .i64 t)), (5, .d (.int .i64 k))]) (fun _ => []) (fun k => (l.take k).any (fun x => okSpan x.1 x.2 && decide (x.1 ≤ t) && decide (t < x.2)) = false) rfl ?_ ?_
  · refine weak_to [] [] rfl List.nodup_nil ?_ rfl
    simp only [zC, seval, implies_true, Nat.reduceLeDiff, Nat.reduceEqDiff, reduceCtorEq, reduceIte, Int.cast_ofNat_Int]
    all_goals rfl
  · intro k hi hk
    by_cases h : k < l.length
    · have hs := any_take (fun x : Int × Int => okSpan x.1 x.2 && decide (x.1 ≤ t) && decide (t < x.2)) l k h
      simp only [zC, seval, implies_true, Nat.reduceLeDiff, Nat.reduceEqDiff, reduceCtorEq, reduceIte, (show (k:Int) < l.length by omega), h, a_getD _ _ _ (show k < l.length by omega), pD]
      repeat ((with_reducible refine And.intro ?_ ?_); (focus (first | omega | (simp only [List.length_take, List.length_drop, List.length_map, List.length_append, List.length_cons]; omega) | (refine (show quietOp _ = true from ?_); rfl) | (refine (show drawOk _ _ _ _ _ _ _ from Or.inl ?_); kernel_rfl) | (intros; simp_all; done))))
      refine callF_pure (k_RValid _ _) ?_
      simp only [zC, seval, implies_true, Nat.reduceLeDiff, Nat.reduceEqDiff, reduceCtorEq, reduceIte, h, a_getD _ _ _ (show k < l.length by omega), pD]
      refine ⟨fun _ => by omega, fun _ => by omega, ?_⟩
      refine ifC.mk (fun hc => ?_) (fun hc => ?_)
      · refine ⟨_, _, ret_d, ?_, rfl⟩
        rw [covB, any_at (fun x : Int × Int => okSpan x.1 x.2 && decide (x.1 ≤ t) && decide (t < x.2)) l k h hc]
      · refine ⟨by rw [hs, hi, hc]; rfl, ?_⟩
        refine weak_to [] [] rfl List.nodup_nil ?_ rfl
        simp only [zC, seval, implies_true, Nat.reduceLeDiff, Nat.reduceEqDiff, reduceCtorEq, reduceIte, @a_wrap ((k:Int) + 1) (by omega)]
    · simp only [zC, seval, implies_true, Nat.reduceLeDiff, Nat.reduceEqDiff, reduceCtorEq, reduceIte, (show ¬ (k:Int) < l.length by omega)]
      have : k = l.length := by omega
      subst this
      rw [List.take_length] at hi
      refine ⟨_, _, ret_d, ?_, rfl⟩
      rw [covB, hi]
theorem k_holds (a b : List (Int × Int)) (op t : Int) (ha : a.length < 1000000) (hb : b.length < 1000000) : Pure Tryz.prog Gl 115 [.d (.sl (a.map pD)), .d (.sl (b.map pD)), .d (.int .i64 op), .d (.int .i64 t)]
    (.d (.bool (holdsF a b op t))) := by
  refine Pure.of4 ?_
  refine acalls_of Tryz.func115 rfl rfl (by simp [Tryz.ntmps115]) (evC_sound rfl _ _ _ _ ?_)
  simp only [Tryz.ntmps115, Tryz.results115, argEnv, List.length_nil]
  simp only [zC, seval, implies_true, Nat.reduceLeDiff, Nat.reduceEqDiff, reduceCtorEq, reduceIte]
  refine callF_pure (k_Covers a t ha) ?_
  simp only [zC, seval, implies_true, Nat.reduceLeDiff, Nat.reduceEqDiff, reduceCtorEq, reduceIte]
  refine callF_pure (k_Covers b t hb) ?_
  simp only [zC, seval, implies_true, Nat.reduceLeDiff, Nat.reduceEqDiff, reduceCtorEq, reduceIte]
  refine ⟨_, _, ret_d, ?_, rfl⟩
  rfl
theorem tkm (xs : List Int) : List.take xs.length (List.map (D.int .i64) xs) = List.map (D.int .i64) xs := List.take_of_length_le (by simp)
theorem tkm1 (xs : List Int) (y : D) : List.take (xs.length + 1) (List.map (D.int .i64) xs ++ [y]) = List.map (D.int .i64) xs ++ [y] := List.take_of_length_le (by simp)
theorem putW_step (n : Int) (l : List Int) {k : Nat} (hk : k < l.length) : putW (l.take (k + 1)) n = putS n (putW (l.take k) n) (l.getD k default) := by
  have : l.take (k + 1) = l.take k ++ [l.getD k default] := by rw [List.take_add_one, List.getElem?_eq_getElem hk]; simp [hk]
  rw [this, putW, List.foldl_append]; rfl
theorem putS_len (n : Int) (st : List Int × Bool) (x : Int) : (putS n st x).1.length ≤ st.1.length + 2 := by
  unfold putS
  simp only
  split <;> split <;> simp <;> omega
theorem putW_len (n : Int) (l : List Int) : (putW l n).1.length ≤ 2 * l.length := by
  have : ∀ (l : List Int) (st : List Int × Bool), (l.foldl (putS n) st).1.length ≤ st.1.length + 2 * l.length := by
    intro l
    induction l with
    | nil => intro st; simp
    | cons x r ih =>
      intro st
      have h1 := ih (putS n st x)
      have h2 := putS_len n st x
      simp only [List.foldl_cons, List.length_cons]
      omega
  have := this l ([], false)
  simpa [putW] using this
theorem k_put (l : List Int) (n : Int) (hl : l.length < 1000000) : Pure Tryz.prog Gl 131 [.d (.sl (l.map (D.int .i64))), .d (.int .i64 n)] (.d (.sl ((putF l n).map (D.int .i64)))) := by
  refine Pure.of2 ?_
  refine acalls_of Tryz.func131 rfl rfl (by simp [Tryz.ntmps131]) (evC_sound rfl _ _ _ _ ?_)
  simp only [Tryz.ntmps131, Tryz.results131, argEnv, List.length_nil]
  simp only [zC, seval, implies_true, Nat.reduceLeDiff, Nat.reduceEqDiff, reduceCtorEq, reduceIte]
  refine for_of l.length (fun k => [(0, .d (.sl (l.map (D.int .i64)))), (1, .d (.int .i64 n)), (5, .osl 0 0 (putW (l.take k) n).1.length), (6, .d (.bool (putW (l.take k) n).2)), (7, .d (.int .i64 k))]) (fun k => [.arr 1 ((putW (l.take k) n).1.map (D.int .i64))]) (fun _ => True) trivial ?_ ?_
  · refine (weak_nils 5 1 rfl).trans ?_
    refine weak_to [] [0] rfl (by simp) ?_ rfl
    simp only [zC, seval, implies_true, Nat.reduceLeDiff, Nat.reduceEqDiff, reduceCtorEq, reduceIte, Int.cast_ofNat_Int]
    all_goals rfl
  · intro k _ hk
    have hlen := putW_len n (l.take k)
    have htl : (l.take k).length ≤ 1000000 := by rw [List.length_take]; omega
    by_cases h : k < l.length
    · have hst := putW_step n l h
      obtain ⟨st, hs⟩ : ∃ st, st = putW (l.take k) n := ⟨_, rfl⟩
      obtain ⟨x, hx⟩ : ∃ x, x = l.getD k default := ⟨_, rfl⟩
      rw [← hs] at hst hlen ⊢
      rw [← hx] at hst
      have hg : (List.map (D.int .i64) l).getD k default = D.int .i64 x := by rw [hx]; simp [h]
      obtain ⟨xs, dn⟩ := st
      simp only at hst hlen ⊢
      simp only [zC, seval, implies_true, Nat.reduceLeDiff, Nat.reduceEqDiff, reduceCtorEq, reduceIte, (show (k:Int) < l.length by omega), h, hg]
      refine ifC.mk (fun h1 => ?_) (fun h1 => ?_)
      · refine ⟨⟨by omega, by omega⟩, ?_⟩
        refine ifC.mk (fun h2 => ?_) (fun h2 => ?_)
        · refine ⟨⟨by omega, by omega⟩, ?_⟩
          have e : putS n (xs, dn) x = (xs ++ [n] ++ [x], true) := by
            unfold putS; simp only [h1, if_true]; rw [if_pos (by simpa using h2)]
          rw [hst, e]
          refine weak_to [] [4] rfl (by simp) ?_ ?_
          · simp only [zC, seval, implies_true, Nat.reduceLeDiff, Nat.reduceEqDiff, reduceCtorEq, reduceIte, @a_wrap ((k:Int) + 1) (by omega), List.length_append, List.length_cons, List.length_nil]
            all_goals rfl
          · refine (congrArg (fun z => [Blk.arr 1 z]) ?_ : [Blk.arr 1 _] = [Blk.arr 1 _])
            simp [tkm, tkm1]
        · have e : putS n (xs, dn) x = (xs ++ [n], true) := by
            unfold putS; simp only [h1, if_true]; rw [if_neg (by simpa using h2)]
          rw [hst, e]
          refine weak_to [] [2] rfl (by simp) ?_ ?_
          · simp only [zC, seval, implies_true, Nat.reduceLeDiff, Nat.reduceEqDiff, reduceCtorEq, reduceIte, @a_wrap ((k:Int) + 1) (by omega), List.length_append, List.length_cons, List.length_nil]
            all_goals rfl
          · refine (congrArg (fun z => [Blk.arr 1 z]) ?_ : [Blk.arr 1 _] = [Blk.arr 1 _])
            simp [tkm, tkm1]
      · refine ifC.mk (fun h2 => ?_) (fun h2 => ?_)
        · refine ⟨⟨by omega, by omega⟩, ?_⟩
          have e : putS n (xs, dn) x = (xs ++ [x], dn) := by
            unfold putS; have h3 : ¬ ((!dn && decide (n ≤ x)) = true) := by rw [h1]; simp
            simp only [if_neg h3]; rw [if_pos (by simpa using h2)]
          rw [hst, e]
          refine weak_to [] [2] rfl (by simp) ?_ ?_
          · simp only [zC, seval, implies_true, Nat.reduceLeDiff, Nat.reduceEqDiff, reduceCtorEq, reduceIte, @a_wrap ((k:Int) + 1) (by omega), List.length_append, List.length_cons, List.length_nil]
            all_goals rfl
          · refine (congrArg (fun z => [Blk.arr 1 z]) ?_ : [Blk.arr 1 _] = [Blk.arr 1 _])
            simp [tkm, tkm1]
        · have e : putS n (xs, dn) x = (xs, dn) := by
            unfold putS; have h3 : ¬ ((!dn && decide (n ≤ x)) = true) := by rw [h1]; simp
            simp only [if_neg h3]; rw [if_neg (by simpa using h2)]
          rw [hst, e]
          refine weak_to [] [0] rfl (by simp) ?_ ?_
          · simp only [zC, seval, implies_true, Nat.reduceLeDiff, Nat.reduceEqDiff, reduceCtorEq, reduceIte, @a_wrap ((k:Int) + 1) (by omega)]
            all_goals rfl
          · rfl
    · simp only [zC, seval, implies_true, Nat.reduceLeDiff, Nat.reduceEqDiff, reduceCtorEq, reduceIte, (show ¬ (k:Int) < l.length by omega)]
      have : k = l.length := by omega
      subst this
      rw [List.take_length] at hlen ⊢
      refine ifC.mk (fun h1 => ?_) (fun h1 => ?_)
      · refine ⟨⟨by omega, by omega⟩, ?_⟩
        refine ⟨_, _, ret_data rfl ?_, rfl, rfl⟩
        rw [putF, if_neg (by simpa using h1)]
        refine (congrArg D.sl ?_ : D.sl _ = D.sl _)
        simp [AV.elems, blkAt, Blk.xs, tkm, tkm1]
      · refine ⟨_, _, ret_data rfl ?_, rfl, rfl⟩
        rw [putF, if_pos (by simpa using h1)]
        simp only [zC, seval, implies_true, Nat.reduceLeDiff, Nat.reduceEqDiff, reduceCtorEq, reduceIte, take_all]
def len1 (st : List Int × Bool) : Nat := st.1.length + (if st.2 = true then 0 else 1)
theorem putS_len1 (n : Int) (st : List Int × Bool) (x : Int) : len1 (putS n st x) ≤ len1 st + 1 := by
  obtain ⟨o, d⟩ := st
  unfold len1 putS
  cases d <;> by_cases h : n ≤ x <;> by_cases g : x = n <;> simp [h, g]
theorem putF_len (l : List Int) (n : Int) : (putF l n).length ≤ l.length + 1 := by
  have : ∀ (l : List Int) (st : List Int × Bool), len1 (l.foldl (putS n) st) ≤ len1 st + l.length := by
    intro l
    induction l with
    | nil => intro st; simp
    | cons x r ih =>
      intro st
      have h1 := ih (putS n st x)
      have h2 := putS_len1 n st x
      simp only [List.foldl_cons, List.length_cons]
      omega
  have h : len1 (putW l n) ≤ 1 + l.length := this l ([], false)
  unfold len1 at h
  unfold putF
  by_cases hc : (putW l n).2 = true
  · rw [if_pos hc] at h ⊢; omega
  · rw [if_neg hc] at h ⊢; rw [List.length_append, List.length_singleton]; omega
def endW (l : List (Int × Int)) : List Int := l.foldl endS []
theorem endW_step (l : List (Int × Int)) {k : Nat} (hk : k < l.length) : endW (l.take (k + 1)) = endS (endW (l.take k)) (l.getD k default) := by
  have : l.take (k + 1) = l.take k ++ [l.getD k default] := by rw [List.take_add_one, List.getElem?_eq_getElem hk]; simp [hk]
  rw [this, endW, List.foldl_append]; rfl
theorem endW_len (l : List (Int × Int)) : (endW l).length ≤ 2 * l.length := by
  have : ∀ (l : List (Int × Int)) (o : List Int), (l.foldl endS o).length ≤ o.length + 2 * l.length := by
    intro l
    induction l with
    | nil => intro o; simp
    | cons x r ih =>
      intro o
      have h1 := ih (endS o x)
      have h2 : (endS o x).length ≤ o.length + 2 := by
        unfold endS
        split
        · have := putF_len (putF o x.1) x.2
          have := putF_len o x.1
          omega
        · omega
      simp only [List.foldl_cons, List.length_cons]
      omega
  simpa [endW] using this l []
theorem k_ends (a b : List (Int × Int)) (ha : a.length < 1000) (hb : b.length < 1000) : Pure Tryz.prog Gl 114 [.d (.sl (a.map pD)), .d (.sl (b.map pD))] (.d (.sl ((endF a b).map (D.int .i64)))) := by
  refine Pure.of2 ?_
  refine acalls_of Tryz.func114 rfl rfl (by simp [Tryz.ntmps114]) (evC_sound rfl _ _ _ _ ?_)
  simp only [Tryz.ntmps114, Tryz.results114, argEnv, List.length_nil]
  simp only [zC, seval, implies_true, Nat.reduceLeDiff, Nat.reduceEqDiff, reduceCtorEq, reduceIte]
  repeat ((with_reducible refine And.intro ?_ ?_); (focus (first | omega | (simp only [List.length_take, List.length_drop, List.length_map, List.length_append, List.length_cons]; omega) | (refine (show quietOp _ = true from ?_); rfl) | (refine (show drawOk _ _ _ _ _ _ _ from Or.inl ?_); kernel_rfl) | (intros; simp_all; done))))
  refine ⟨⟨fun _ _ => rfl, by omega, by omega⟩, ⟨fun _ _ => rfl, by omega, by omega⟩, ?_⟩
  obtain ⟨c, hc⟩ : ∃ c, c = a ++ b := ⟨_, rfl⟩
  have hcl : c.length = a.length + b.length := by rw [hc, List.length_append]
  have hcm : List.take a.length (List.map pD a) ++ List.map pD b = c.map pD := by rw [hc, List.map_append, List.take_of_length_le (by simp)]
  have hF : endF a b = endW c := by rw [hc]; rfl
  rw [hcm, ← hcl, hF]
  refine for_of c.length (fun k => [(5, .d (.sl ((endW (c.take k)).map (D.int .i64)))), (6, .d (.sl (c.map pD))), (7, .d (.int .i64 k))]) (fun _ => []) (fun _ => True) trivial ?_ ?_
  · refine (weak_toD 5 rfl).trans ?_
    refine (weak_toD 6 rfl).trans ?_
    refine weak_to [] [] rfl List.nodup_nil ?_ rfl
    simp only [zC, seval, implies_true, Nat.reduceLeDiff, Nat.reduceEqDiff, reduceCtorEq, reduceIte, take_all]
    all_goals rfl
  · intro k _ hk
    have hlen := endW_len (c.take k)
    have htl : (c.take k).length ≤ 2000 := by rw [List.length_take]; omega
    by_cases h : k < c.length
    · have hst := endW_step c h
      obtain ⟨o, ho⟩ : ∃ o, o = endW (c.take k) := ⟨_, rfl⟩
      obtain ⟨x, hx⟩ : ∃ x, x = c.getD k default := ⟨_, rfl⟩
      have hg : (List.map pD c).getD k default = pD x := by rw [hx]; simp [h]
      rw [← ho] at hst hlen ⊢
      rw [← hx] at hst
      have hl1 := putF_len o x.1
      simp only [zC, seval, implies_true, Nat.reduceLeDiff, Nat.reduceEqDiff, reduceCtorEq, reduceIte, (show (k:Int) < c.length by omega), h, hg, pD]
      repeat ((with_reducible refine And.intro ?_ ?_); (focus (first | omega | (simp only [List.length_take, List.length_drop, List.length_map, List.length_append, List.length_cons]; omega) | (refine (show quietOp _ = true from ?_); rfl) | (refine (show drawOk _ _ _ _ _ _ _ from Or.inl ?_); kernel_rfl) | (intros; simp_all; done))))
      refine callF_pure (k_RValid _ _) ?_
      simp only [zC, seval, implies_true, Nat.reduceLeDiff, Nat.reduceEqDiff, reduceCtorEq, reduceIte, h, hg, pD]
      refine ifC.mk (fun hv => ?_) (fun hv => ?_)
      · rw [endS, if_pos hv] at hst
        repeat ((with_reducible refine And.intro ?_ ?_); (focus (first | omega | (simp only [List.length_take, List.length_drop, List.length_map, List.length_append, List.length_cons]; omega) | (refine (show quietOp _ = true from ?_); rfl) | (refine (show drawOk _ _ _ _ _ _ _ from Or.inl ?_); kernel_rfl) | (intros; simp_all; done))))
        (try simp only [zC, seval, implies_true, Nat.reduceLeDiff, Nat.reduceEqDiff, reduceCtorEq, reduceIte, h, hg, pD])
        refine callF_pure (k_put o x.1 (by omega)) ?_
        simp only [zC, seval, implies_true, Nat.reduceLeDiff, Nat.reduceEqDiff, reduceCtorEq, reduceIte, h, hg, pD]
        repeat ((with_reducible refine And.intro ?_ ?_); (focus (first | omega | (simp only [List.length_take, List.length_drop, List.length_map, List.length_append, List.length_cons]; omega) | (refine (show quietOp _ = true from ?_); rfl) | (refine (show drawOk _ _ _ _ _ _ _ from Or.inl ?_); kernel_rfl) | (intros; simp_all; done))))
        refine callF_pure (k_put (putF o x.1) x.2 (by omega)) ?_
        simp only [zC, seval, implies_true, Nat.reduceLeDiff, Nat.reduceEqDiff, reduceCtorEq, reduceIte]
        rw [hst]
        refine weak_to [] [] rfl List.nodup_nil ?_ rfl
        simp only [zC, seval, implies_true, Nat.reduceLeDiff, Nat.reduceEqDiff, reduceCtorEq, reduceIte, @a_wrap ((k:Int) + 1) (by omega)]
      · rw [endS, if_neg (by rw [hv]; simp)] at hst
        rw [hst]
        refine weak_to [] [] rfl List.nodup_nil ?_ rfl
        simp only [zC, seval, implies_true, Nat.reduceLeDiff, Nat.reduceEqDiff, reduceCtorEq, reduceIte, @a_wrap ((k:Int) + 1) (by omega)]
    · simp only [zC, seval, implies_true, Nat.reduceLeDiff, Nat.reduceEqDiff, reduceCtorEq, reduceIte, (show ¬ (k:Int) < c.length by omega)]
      have : k = c.length := by omega
      subst this
      rw [List.take_length]
      exact ⟨_, _, ret_d, rfl, rfl⟩
def combW (a b : List (Int × Int)) (op : Int) (cut : List Int) (k : Nat) : List (Int × Int) := (List.range k).foldl (combS a b op cut) []
theorem combW_step (a b : List (Int × Int)) (op : Int) (cut : List Int) (k : Nat) : combW a b op cut (k + 1) = combS a b op cut (combW a b op cut k) k := by
  rw [combW, List.range_succ, List.foldl_append]; rfl
theorem combS_len (a b : List (Int × Int)) (op : Int) (cut : List Int) (o : List (Int × Int)) (k : Nat) : (combS a b op cut o k).length ≤ o.length + 1 := by
  unfold combS
  split
  · omega
  · split
    · simp
    · simp
theorem combW_len (a b : List (Int × Int)) (op : Int) (cut : List Int) : ∀ k, (combW a b op cut k).length ≤ k
  | 0 => by simp [combW]
  | k + 1 => by
    have h1 := combW_len a b op cut k
    have h2 := combS_len a b op cut (combW a b op cut k) k
    rw [combW_step]; omega
theorem k_combine (a b : List (Int × Int)) (op : Int) (ha : a.length < 1000) (hb : b.length < 1000) : Pure Tryz.prog Gl 86 [.d (.sl (a.map pD)), .d (.sl (b.map pD)), .d (.int .i64 op)] (.d (.sl ((combF a b op).map pD))) := by
  refine Pure.of3 ?_
  refine acalls_of Tryz.func86 rfl rfl (by simp [Tryz.ntmps86]) (evC_sound rfl _ _ _ _ ?_)
  simp only [Tryz.ntmps86, Tryz.results86, argEnv, List.length_nil]
  simp only [zC, seval, implies_true, Nat.reduceLeDiff, Nat.reduceEqDiff, reduceCtorEq, reduceIte]
  refine callF_pure (k_ends a b ha hb) ?_
  obtain ⟨cut, hcut⟩ : ∃ cut, cut = endF a b := ⟨_, rfl⟩
  have hcl : cut.length ≤ 4000 := by
    have h1 := endW_len (a ++ b)
    have : endF a b = endW (a ++ b) := rfl
    rw [hcut, this]
    rw [List.length_append] at h1
    omega
  have hF : combF a b op = combW a b op cut (cut.length - 1) := by rw [combF, ← hcut]; rfl
  rw [hF, ← hcut]
  simp only [zC, seval, implies_true, Nat.reduceLeDiff, Nat.reduceEqDiff, reduceCtorEq, reduceIte]
  refine for_of (cut.length - 1) (fun k => [(0, .d (.sl (a.map pD))), (1, .d (.sl (b.map pD))), (2, .d (.int .i64 op)), (7, .osl 0 0 (combW a b op cut k).length), (8, .d (.sl (cut.map (D.int .i64)))), (9, .d (.int .i64 k))]) (fun k => [.arr 2 ((combW a b op cut k).map pD)]) (fun _ => True) trivial ?_ ?_
  · refine (weak_nils 7 2 rfl).trans ?_
    refine weak_to [] [0] rfl (by simp) ?_ rfl
    simp only [zC, seval, implies_true, Nat.reduceLeDiff, Nat.reduceEqDiff, reduceCtorEq, reduceIte, Int.cast_ofNat_Int]
    all_goals rfl
  · intro k _ hk
    have hlen := combW_len a b op cut k
    have wk : IntKind.i64.wrap ((k : Int) + 1) = (k : Int) + 1 := wrap64 (by omega) (by omega)
    by_cases h : k < cut.length - 1
    · have hst := combW_step a b op cut k
      obtain ⟨o, ho⟩ : ∃ o, o = combW a b op cut k := ⟨_, rfl⟩
      rw [← ho] at hst hlen ⊢
      have hg : (List.map (D.int .i64) cut).getD k default = D.int .i64 (cut.getD k default) := by simp [show k < cut.length by omega]
      have hg1 : (List.map (D.int .i64) cut).getD (k + 1) default = D.int .i64 (cut.getD (k + 1) default) := by simp [show k + 1 < cut.length by omega]
      have hk1 : k < cut.length := by omega
      have hk2 : k + 1 < cut.length := by omega
      have hnat : ((k : Int) + 1).toNat = k + 1 := by omega
      simp only [zC, seval, implies_true, Nat.reduceLeDiff, Nat.reduceEqDiff, reduceCtorEq, reduceIte, wk, (show (k : Int) + 1 < cut.length by omega), (show (k : Int) < cut.length by omega), hk1, hk2, hg, hg1]
      repeat ((with_reducible refine And.intro ?_ ?_); (focus (first | omega | (simp only [List.length_take, List.length_drop, List.length_map, List.length_append, List.length_cons]; omega) | (refine (show quietOp _ = true from ?_); rfl) | (refine (show drawOk _ _ _ _ _ _ _ from Or.inl ?_); kernel_rfl) | (intros; simp_all; done))))
      refine callF_pure (k_holds a b op _ (by omega) (by omega)) ?_
      simp only [zC, seval, implies_true, Nat.reduceLeDiff, Nat.reduceEqDiff, reduceCtorEq, reduceIte]
      refine ifC.mk (fun h1 => ?_) (fun h1 => ?_)
      · have e : combS a b op cut o k = o := by unfold combS; rw [if_pos (by simpa using h1)]
        rw [hst, e]
        refine ⟨h, ?_⟩
        refine weak_to [] [0] rfl (by simp) ?_ rfl
        simp only [zC, seval, implies_true, Nat.reduceLeDiff, Nat.reduceEqDiff, reduceCtorEq, reduceIte, wk]
        all_goals rfl
      have h1 : ¬ holdsF a b op (cut.getD k default) = false := by rw [← Bool.not_eq_true', h1]; simp
      by_cases h0 : o.length = 0
      · have ho0 : o = [] := List.eq_nil_of_length_eq_zero h0
        have e : combS a b op cut o k = [(cut.getD k default, cut.getD (k + 1) default)] := by unfold combS; rw [if_neg h1, if_neg (by simp [h0])]; rw [ho0]; rfl
        rw [hst, e]
        rw [ho0]
        have e1 : IntKind.i64.wrap (-1) = -1 := by decide
        simp only [zC, seval, implies_true, Nat.reduceLeDiff, Nat.reduceEqDiff, reduceCtorEq, reduceIte, e1, List.length_nil, Int.cast_ofNat_Int]
        repeat ((with_reducible refine And.intro ?_ ?_); (focus (first | omega | (simp only [List.length_take, List.length_drop, List.length_map, List.length_append, List.length_cons]; omega) | (refine (show quietOp _ = true from ?_); rfl) | (refine (show drawOk _ _ _ _ _ _ _ from Or.inl ?_); kernel_rfl) | (intros; simp_all; done))))
        simp only [zC, seval, implies_true, Nat.reduceLeDiff, Nat.reduceEqDiff, reduceCtorEq, reduceIte, e1, (show ¬ (-1 : Int) ≥ 0 by omega), wk, hnat, hg, hg1, hk1, hk2, (show (k : Int) + 1 < cut.length by omega), (show (k : Int) < cut.length by omega), Int.cast_ofNat_Int]
        repeat ((with_reducible refine And.intro ?_ ?_); (focus (first | omega | (simp only [List.length_take, List.length_drop, List.length_map, List.length_append, List.length_cons]; omega) | (refine (show quietOp _ = true from ?_); rfl) | (refine (show drawOk _ _ _ _ _ _ _ from Or.inl ?_); kernel_rfl) | (intros; simp_all; done))))
        refine weak_to [] [2] rfl (by simp) ?_ ?_
        · simp only [zC, seval, implies_true, Nat.reduceLeDiff, Nat.reduceEqDiff, reduceCtorEq, reduceIte]
          all_goals rfl
        · rfl
      · have e1 : IntKind.i64.wrap ((o.length : Int) - 1) = ((o.length - 1 : Nat) : Int) := by rw [wrap64 (by omega) (by omega)]; omega
        have hgo : (List.map pD o).getD (o.length - 1) default = pD (o.getD (o.length - 1) default) := by simp [show o.length - 1 < o.length by omega]
        have hol : o.length - 1 < o.length := by omega
        simp only [zC, seval, implies_true, Nat.reduceLeDiff, Nat.reduceEqDiff, reduceCtorEq, reduceIte, e1]
        repeat ((with_reducible refine And.intro ?_ ?_); (focus (first | omega | (simp only [List.length_take, List.length_drop, List.length_map, List.length_append, List.length_cons]; omega) | (refine (show quietOp _ = true from ?_); rfl) | (refine (show drawOk _ _ _ _ _ _ _ from Or.inl ?_); kernel_rfl) | (intros; simp_all; done))))
        simp only [zC, seval, implies_true, Nat.reduceLeDiff, Nat.reduceEqDiff, reduceCtorEq, reduceIte, e1, (show ((o.length - 1 : Nat) : Int) ≥ 0 by omega), (show ((o.length - 1 : Nat) : Int) < o.length by omega), hol, hgo, pD_cells, pD_isAgg, wk, hnat, hg, hg1, hk1, hk2, (show (k : Int) + 1 < cut.length by omega), (show (k : Int) < cut.length by omega)]
        refine ifC.mk (fun hx => ?_) (fun hx => ?_)
        · have e : combS a b op cut o k = o.set (o.length - 1) ((o.getD (o.length - 1) default).1, cut.getD (k + 1) default) := by
            unfold combS; rw [if_neg h1, if_pos (by rw [hx]; simp; omega)]
          rw [hst, e]
          repeat ((with_reducible refine And.intro ?_ ?_); (focus (first | omega | (simp only [List.length_take, List.length_drop, List.length_map, List.length_append, List.length_cons]; omega) | (refine (show quietOp _ = true from ?_); rfl) | (refine (show drawOk _ _ _ _ _ _ _ from Or.inl ?_); kernel_rfl) | (intros; simp_all; done))))
          refine weak_to [] [0] rfl (by simp) ?_ ?_
          · simp only [zC, seval, implies_true, Nat.reduceLeDiff, Nat.reduceEqDiff, reduceCtorEq, reduceIte, List.length_set]
            all_goals rfl
          · refine (congrArg (fun z => [Blk.arr 2 z]) ?_ : [Blk.arr 2 _] = [Blk.arr 2 _])
            rw [List.map_set]; rfl
        · have e : combS a b op cut o k = o ++ [(cut.getD k default, cut.getD (k + 1) default)] := by
            unfold combS; rw [if_neg h1, if_neg (by rw [hx]; simp)]
          rw [hst, e]
          repeat ((with_reducible refine And.intro ?_ ?_); (focus (first | omega | (simp only [List.length_take, List.length_drop, List.length_map, List.length_append, List.length_cons]; omega) | (refine (show quietOp _ = true from ?_); rfl) | (refine (show drawOk _ _ _ _ _ _ _ from Or.inl ?_); kernel_rfl) | (intros; simp_all; done))))
          refine weak_to [] [2] rfl (by simp) ?_ ?_
          · simp only [zC, seval, implies_true, Nat.reduceLeDiff, Nat.reduceEqDiff, reduceCtorEq, reduceIte, List.length_append, List.length_cons, List.length_nil]
            all_goals rfl
          · refine (congrArg (fun z => [Blk.arr 2 z]) ?_ : [Blk.arr 2 _] = [Blk.arr 2 _])
            rw [List.map_append, List.take_of_length_le (by simp)]; rfl
    · have hk : k = cut.length - 1 := by omega
      subst hk
      simp only [zC, seval, implies_true, Nat.reduceLeDiff, Nat.reduceEqDiff, reduceCtorEq, reduceIte, wrap64 (show -9223372036854775808 ≤ ((cut.length - 1 : Nat) : Int) + 1 by omega) (by omega), (show ¬ ((cut.length - 1 : Nat) : Int) + 1 < cut.length by omega)]
      refine ⟨_, _, ret_data rfl ?_, rfl, rfl⟩
      simp only [zC, seval, implies_true, Nat.reduceLeDiff, Nat.reduceEqDiff, reduceCtorEq, reduceIte, take_all]
theorem k_Meet (a b : List (Int × Int)) (ha : a.length < 1000) (hb : b.length < 1000) : Pure Tryz.prog Gl 48 [.d (.sl (a.map pD)), .d (.sl (b.map pD))] (.d (.sl ((combF a b 2).map pD))) := by
  refine Pure.of2 ?_
  refine acalls_of Tryz.func48 rfl rfl (by simp [Tryz.ntmps48]) (evC_sound rfl _ _ _ _ ?_)
  simp only [Tryz.ntmps48, Tryz.results48, argEnv, List.length_nil]
  simp only [zC, seval, implies_true, Nat.reduceLeDiff, Nat.reduceEqDiff, reduceCtorEq, reduceIte]
  refine callF_pure (k_combine a b 2 ha hb) ?_
  simp only [zC, seval, implies_true, Nat.reduceLeDiff, Nat.reduceEqDiff, reduceCtorEq, reduceIte]
  exact ⟨_, _, ret_d, rfl, rfl⟩
theorem k_Normal (a : List (Int × Int)) (ha : a.length < 1000) : Pure Tryz.prog Gl 85 [.d (.sl (a.map pD))] (.d (.sl ((combF a [] 1).map pD))) := by
  refine Pure.of1 ?_
  refine acalls_of Tryz.func85 rfl rfl (by simp [Tryz.ntmps85]) (evC_sound rfl _ _ _ _ ?_)
  simp only [Tryz.ntmps85, Tryz.results85, argEnv, List.length_nil]
  simp only [zC, seval, implies_true, Nat.reduceLeDiff, Nat.reduceEqDiff, reduceCtorEq, reduceIte]
  refine callF_dataE (k_combine a [] 1 ha (by simp)) rfl rfl ?_
  simp only [zC, seval, implies_true, Nat.reduceLeDiff, Nat.reduceEqDiff, reduceCtorEq, reduceIte]
  exact ⟨_, _, ret_d, rfl, rfl⟩
theorem k_Length (l : List (Int × Int)) (hl : l.length < 1000) (h1 : (combF l [] 1).length ≤ 1) (h2 : ∀ p ∈ combF l [] 1, okSpan p.1 p.2 = true) : Pure Tryz.prog Gl 47 [.d (.sl (l.map pD))] (.d (.int .i64 (lenF l))) := by
  refine Pure.of1 ?_
  refine acalls_of Tryz.func47 rfl rfl (by simp [Tryz.ntmps47]) (evC_sound rfl _ _ _ _ ?_)
  simp only [Tryz.ntmps47, Tryz.results47, argEnv, List.length_nil]
  simp only [zC, seval, implies_true, Nat.reduceLeDiff, Nat.reduceEqDiff, reduceCtorEq, reduceIte]
  refine callF_pure (k_Normal l hl) ?_
  rw [lenF]
  obtain ⟨n, hn⟩ : ∃ n, n = combF l [] 1 := ⟨_, rfl⟩
  rw [← hn] at h1 h2 ⊢
  simp only [zC, seval, implies_true, Nat.reduceLeDiff, Nat.reduceEqDiff, reduceCtorEq, reduceIte]
  refine for_of n.length (fun k => [(3, .d (.int .i64 ((n.take k).foldl (fun n x => n + x.2 - x.1) 0))), (4, .d (.sl (n.map pD))), (5, .d (.int .i64 k))]) (fun _ => []) (fun _ => True) trivial ?_ ?_
  · refine weak_to [] [] rfl List.nodup_nil ?_ rfl
    simp only [zC, seval, implies_true, Nat.reduceLeDiff, Nat.reduceEqDiff, reduceCtorEq, reduceIte, Int.cast_ofNat_Int]
    all_goals rfl
  · intro k _ hk
    by_cases h : k < n.length
    · obtain rfl : k = 0 := by omega
      obtain ⟨p, rfl⟩ : ∃ p, n = [p] := by
        match n, h, h1 with
        | [p], _, _ => exact ⟨p, rfl⟩
        | _ :: _ :: _, _, h1 => simp at h1
      have hp := okSpan_lt (h2 p List.mem_cons_self)
      have w1 : IntKind.i64.wrap p.2 = p.2 := wrap64 (by omega) (by omega)
      have w2 : IntKind.i64.wrap (p.2 - p.1) = p.2 - p.1 := wrap64 (by omega) (by omega)
      have ef : List.foldl (fun (n : Int) (x : Int × Int) => n + x.2 - x.1) 0 [p] = p.2 - p.1 := by simp
      have ez : (0 : Int) + p.2 = p.2 := by omega
      rw [show [p].take (0 + 1) = [p] from rfl, ef]
      simp only [zC, seval, implies_true, Nat.reduceLeDiff, Nat.reduceEqDiff, reduceCtorEq, reduceIte, Int.cast_ofNat_Int, pD_cells, pD_isAgg, pD, List.foldl_nil]
      repeat ((with_reducible refine And.intro ?_ ?_); (focus (first | omega | (simp only [List.length_take, List.length_drop, List.length_map, List.length_append, List.length_cons]; omega) | (refine (show quietOp _ = true from ?_); rfl) | (refine (show drawOk _ _ _ _ _ _ _ from Or.inl ?_); kernel_rfl) | (intros; simp_all; done))))
      (try simp only [zC, seval, implies_true, Nat.reduceLeDiff, Nat.reduceEqDiff, reduceCtorEq, reduceIte, w1, w2, ez, Int.cast_ofNat_Int])
      refine weak_to [] [] rfl List.nodup_nil ?_ rfl
      (try simp only [zC, seval, implies_true, Nat.reduceLeDiff, Nat.reduceEqDiff, reduceCtorEq, reduceIte, w1, w2, ez, Int.cast_ofNat_Int])
      all_goals rfl
    · simp only [zC, seval, implies_true, Nat.reduceLeDiff, Nat.reduceEqDiff, reduceCtorEq, reduceIte, (show ¬ (k:Int) < n.length by omega)]
      have : k = n.length := by omega
      subst this
      rw [List.take_length]
      exact ⟨_, _, ret_d, rfl, rfl⟩
end YtccgdcmgjdhikaaGreat
end Go.Proofs
