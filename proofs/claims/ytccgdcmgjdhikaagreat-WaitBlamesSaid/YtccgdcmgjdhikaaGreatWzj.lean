/- A part of the proof: contracts of functions of this seat, and lemmas. No condition beyond those stated. -/
import Derived.Test.YtccgdcmgjdhikaaGreatWzi
set_option linter.unusedVariables false
set_option linter.unusedSimpArgs false
set_option linter.unusedSectionVars false
set_option linter.unnecessarySimpa false
set_option linter.unusedSimpArgs false
set_option linter.unusedVariables false
set_option maxRecDepth 100000
namespace Go.Proofs
open Go.AM
namespace YtccgdcmgjdhikaaGreat
variable {Gl : Globs}

/-! ### who waits for whom -/
def atB (th t : Int) (s : StateT) : Bool := s.thread == th && decide (s.lo ≤ t) && decide (t < s.hi)
def atS (l : List StateT) (th t : Int) : Option StateT := l.find? (atB th t)
theorem find_take {α : Type} [Inhabited α] {p : α → Bool} {l : List α} {k : Nat} (h : k < l.length) (hn : (l.take k).any p = false) (hp : p (l.getD k default) = true) : l.find? p = some (l.getD k default) := by
  have e : l = l.take k ++ l.drop k := (List.take_append_drop k l).symm
  have e2 : l.drop k = l.getD k default :: l.drop (k + 1) := by
    rw [List.drop_eq_getElem_cons h]; congr 1; simp [h]
  rw [e, List.find?_append, List.find?_eq_none.2 (by simpa using hn), e2]
  simp only [Option.none_or, List.find?_cons]
  rw [← e2, ← e, hp]
theorem find_none {α : Type} {p : α → Bool} {l : List α} (hn : l.any p = false) : l.find? p = none := List.find?_eq_none.2 (by simpa using hn)
theorem k_At (l : List StateT) (th t : Int) (hl : l.length < 1000000) : Pure Tryz.prog Gl 21 [.d (.sl (l.map StateT.toD)), .d (.int .i64 th), .d (.int .i64 t)] (.tup [.d ((atS l th t).getD default).toD, .d (.bool (atS l th t).isSome)]) := by
  refine Pure.of3t2 ?_
  have z0 : (default : StateT) = ⟨0, 0, 0, 0, 0, 0, 0⟩ := rfl
  refine acalls_of Tryz.func21 rfl rfl (by simp [Tryz.ntmps21]) (evC_sound rfl _ _ _ _ ?_)
  simp only [Tryz.ntmps21, Tryz.results21, argEnv, List.length_nil]
  simp only [zC, seval, implies_true, Nat.reduceLeDiff, Nat.reduceEqDiff, reduceCtorEq, reduceIte]
  repeat ((with_reducible refine And.intro ?_ ?_); (focus (first | omega | (simp only [List.length_take, List.length_drop, List.length_map, List.length_append, List.length_cons]; omega) | (refine (show quietOp _ = true from ?_); rfl) | (refine (show drawOk _ _ _ _ _ _ _ from Or.inl ?_); kernel_rfl) | (intros; simp_all; done))))
  refine for_of l.length (fun k => [(1, .d (.int .i64 th)), (2, .d (.int .i64 t)), (6, .ptr 0 0), (10, .d (.sl (l.map StateT.toD))), (11, .d (.int .i64 l.length)), (12, .d (.int .i64 k))]) (fun _ => [.box 7 (.d (default : StateT).toD)]) (fun k => (l.take k).any (atB th t) = false) rfl ?_ ?_
  · refine weak_to [] [0] rfl (by simp) ?_ ?_
    · simp only [zC, seval, implies_true, Nat.reduceLeDiff, Nat.reduceEqDiff, reduceCtorEq, reduceIte, Int.cast_ofNat_Int]
      all_goals rfl
    · rfl
  · intro k hi hk
    by_cases h : k < l.length
    · have hs := any_take (atB th t) l k h
      simp only [zC, seval, implies_true, Nat.reduceLeDiff, Nat.reduceEqDiff, reduceCtorEq, reduceIte, (show (k:Int) < l.length by omega), h, a_getD _ _ _ (show k < l.length by omega)]
      repeat ((with_reducible refine And.intro ?_ ?_); (focus (first | omega | (simp only [List.length_take, List.length_drop, List.length_map, List.length_append, List.length_cons]; omega) | (refine (show quietOp _ = true from ?_); rfl) | (refine (show drawOk _ _ _ _ _ _ _ from Or.inl ?_); kernel_rfl) | (intros; simp_all; done))))
      refine ifC.mk (fun hc => ?_) (fun hc => ?_)
      · repeat ((with_reducible refine And.intro ?_ ?_); (focus (first | omega | (simp only [List.length_take, List.length_drop, List.length_map, List.length_append, List.length_cons]; omega) | (refine (show quietOp _ = true from ?_); rfl) | (refine (show drawOk _ _ _ _ _ _ _ from Or.inl ?_); kernel_rfl) | (intros; simp_all; done))))
        refine ⟨_, _, ret_t2, ?_, rfl⟩
        rw [show atS l th t = some (l.getD k default) from find_take h hi hc]
        rfl
      · refine ⟨by rw [hs, hi, show atB th t (l.getD k default) = false from hc]; rfl, ?_⟩
        refine weak_to [] [0] rfl (by simp) ?_ rfl
        simp only [zC, seval, implies_true, Nat.reduceLeDiff, Nat.reduceEqDiff, reduceCtorEq, reduceIte, @a_wrap ((k:Int) + 1) (by omega)]
        all_goals rfl
    · simp only [zC, seval, implies_true, Nat.reduceLeDiff, Nat.reduceEqDiff, reduceCtorEq, reduceIte, (show ¬ (k:Int) < l.length by omega)]
      have : k = l.length := by omega
      subst this
      rw [List.take_length] at hi
      repeat ((with_reducible refine And.intro ?_ ?_); (focus (first | omega | (simp only [List.length_take, List.length_drop, List.length_map, List.length_append, List.length_cons]; omega) | (refine (show quietOp _ = true from ?_); rfl) | (refine (show drawOk _ _ _ _ _ _ _ from Or.inl ?_); kernel_rfl) | (intros; simp_all; done))))
      refine ⟨_, _, ret_t2, ?_, rfl⟩
      rw [show atS l th t = none from find_none hi]
      rfl
theorem k_known1 (th : Int) (x : ThreadT) : ACalls Tryz.prog Gl 42 [.d x.toD, .ptr 0 0] [.box 1 (.d (.int .i64 th))] (fun r s => r = .d (.bool (x.id == th)) ∧ s = [.box 1 (.d (.int .i64 th))]) := by
  refine acalls_of Tryz.func42 rfl rfl (by simp [Tryz.ntmps42]) (evC_sound rfl _ _ _ _ ?_)
  simp only [Tryz.ntmps42, Tryz.results42, argEnv, List.length_nil]
  simp only [zC, seval, implies_true, Nat.reduceLeDiff, Nat.reduceEqDiff, reduceCtorEq, reduceIte]
  repeat ((with_reducible refine And.intro ?_ ?_); (focus (first | omega | (simp only [List.length_take, List.length_drop, List.length_map, List.length_append, List.length_cons]; omega) | (refine (show quietOp _ = true from ?_); rfl) | (refine (show drawOk _ _ _ _ _ _ _ from Or.inl ?_); kernel_rfl) | (intros; simp_all; done))))
  refine ⟨_, _, weakR_to [] [0] rfl (by simp) (show renV _ _ _ = AV.d _ from rfl) rfl, ?_, rfl⟩
  rfl
theorem k_known (t : TraceT) (ht : t.Few) (th : Int) : Pure Tryz.prog Gl 20 [.d t.toD, .d (.int .i64 th)] (.d (.bool (hasT t.threads th))) := by
  refine Pure.of2 ?_
  refine acalls_of Tryz.func20 rfl rfl (by simp [Tryz.ntmps20]) (evC_sound rfl _ _ _ _ ?_)
  simp only [Tryz.ntmps20, Tryz.results20, argEnv, List.length_nil]
  simp only [zC, seval, implies_true, Nat.reduceLeDiff, Nat.reduceEqDiff, reduceCtorEq, reduceIte]
  repeat ((with_reducible refine And.intro ?_ ?_); (focus (first | omega | (simp only [List.length_take, List.length_drop, List.length_map, List.length_append, List.length_cons]; omega) | (refine (show quietOp _ = true from ?_); rfl) | (refine (show drawOk _ _ _ _ _ _ _ from Or.inl ?_); kernel_rfl) | (intros; simp_all; done))))
  refine callF_blk1 1 (k_ContainsFuncThread _ 1 _ _ (k_known1 th) t.threads ht.threads) (fun s => rfl) (by rfl) trivial ?_
  simp only [zC, seval, implies_true, Nat.reduceLeDiff, Nat.reduceEqDiff, reduceCtorEq, reduceIte]
  refine ⟨_, _, ret_d, ?_, rfl⟩
  rfl
def nextF (t : TraceT) (th a : Int) : Int × Bool := (((atS t.states th a).getD default).on_, (atS t.states th a).isSome && (((atS t.states th a).getD default).state == 2) && hasT t.threads ((atS t.states th a).getD default).on_)
theorem k_next (t : TraceT) (ht : t.Few) (th a : Int) : Pure Tryz.prog Gl 27 [.d t.toD, .d (.int .i64 th), .d (.int .i64 a)] (.tup [.d (.int .i64 (nextF t th a).1), .d (.bool (nextF t th a).2)]) := by
  refine Pure.of3t2 ?_
  refine acalls_of Tryz.func27 rfl rfl (by simp [Tryz.ntmps27]) (evC_sound rfl _ _ _ _ ?_)
  simp only [Tryz.ntmps27, Tryz.results27, argEnv, List.length_nil]
  simp only [zC, seval, implies_true, Nat.reduceLeDiff, Nat.reduceEqDiff, reduceCtorEq, reduceIte]
  repeat ((with_reducible refine And.intro ?_ ?_); (focus (first | omega | (simp only [List.length_take, List.length_drop, List.length_map, List.length_append, List.length_cons]; omega) | (refine (show quietOp _ = true from ?_); rfl) | (refine (show drawOk _ _ _ _ _ _ _ from Or.inl ?_); kernel_rfl) | (intros; simp_all; done))))
  refine callF_pure (k_At _ _ _ ht.states) ?_
  obtain ⟨o, eo⟩ : ∃ o, o = atS t.states th a := ⟨_, rfl⟩
  rw [nextF, ← eo]
  simp only [zC, seval, implies_true, Nat.reduceLeDiff, Nat.reduceEqDiff, reduceCtorEq, reduceIte]
  repeat ((with_reducible refine And.intro ?_ ?_); (focus (first | omega | (simp only [List.length_take, List.length_drop, List.length_map, List.length_append, List.length_cons]; omega) | (refine (show quietOp _ = true from ?_); rfl) | (refine (show drawOk _ _ _ _ _ _ _ from Or.inl ?_); kernel_rfl) | (intros; simp_all; done))))
  refine callG_pure (fun _ => k_known t ht _) ?_
  simp only [zC, seval, implies_true, Nat.reduceLeDiff, Nat.reduceEqDiff, reduceCtorEq, reduceIte]
  repeat ((with_reducible refine And.intro ?_ ?_); (focus (first | omega | (simp only [List.length_take, List.length_drop, List.length_map, List.length_append, List.length_cons]; omega) | (refine (show quietOp _ = true from ?_); rfl) | (refine (show drawOk _ _ _ _ _ _ _ from Or.inl ?_); kernel_rfl) | (intros; simp_all; done))))
  exact ⟨_, _, ret_t2, rfl, rfl⟩
theorem hasT_or (l : List ThreadT) (n : Int) (x : ThreadT) : hasT (x :: l) n = (x.id == n || hasT l n) := rfl
/-- how many of the threads are not in a list -/
def cntF (ths : List ThreadT) (xs : List Int) : Nat := ths.countP fun x => !xs.any (fun y => x.id == y)
theorem cnt_le (xs : List Int) (q : Int) : ∀ ths : List ThreadT, cntF ths (xs ++ [q]) ≤ cntF ths xs
  | [] => Nat.le_refl _
  | x :: l => by
    have ih := cnt_le xs q l
    unfold cntF at *
    rw [List.countP_cons, List.countP_cons]
    have : (if (!(xs ++ [q]).any fun y => x.id == y) = true then 1 else 0) ≤ (if (!xs.any fun y => x.id == y) = true then 1 else 0) := by
      rw [List.any_append]
      cases xs.any fun y => x.id == y <;> simp
      split <;> omega
    omega
theorem cnt_lt {xs : List Int} {q : Int} (hq : xs.any (fun y => q == y) = false) : ∀ {ths : List ThreadT}, hasT ths q = true → cntF ths (xs ++ [q]) < cntF ths xs
  | [], h => by simp [hasT] at h
  | x :: l, h => by
    have hle := cnt_le xs q l
    rw [hasT_or, Bool.or_eq_true] at h
    unfold cntF at *
    rw [List.countP_cons, List.countP_cons]
    by_cases hx : x.id = q
    · have e1 : (!(xs ++ [q]).any fun y => x.id == y) = false := by rw [List.any_append, hx]; simp
      have e2 : (!xs.any fun y => x.id == y) = true := by rw [hx, hq]; rfl
      rw [e1, e2, if_neg (by simp), if_pos rfl]; omega
    · have h : hasT l q = true := by
        rcases h with h | h
        · exact absurd (by simpa using h) hx
        · exact h
      have ih := cnt_lt hq h
      unfold cntF at ih
      have e1 : (!(xs ++ [q]).any fun y => x.id == y) = (!xs.any fun y => x.id == y) := by rw [List.any_append]; simp [hx]
      rw [e1]; omega
def lastI (xs : List Int) : Int := xs.getD (xs.length - 1) default
def stopF (t : TraceT) (a : Int) (xs : List Int) : Bool := (!(nextF t (lastI xs) a).2 || !(atS t.states (nextF t (lastI xs) a).1 a).isSome) || xs.any (fun y => (nextF t (lastI xs) a).1 == y)
def folF (t : TraceT) (a : Int) : Nat → List Int → List Int
  | 0, xs => xs
  | n + 1, xs => if stopF t a xs = true then xs else folF t a n (xs ++ [(nextF t (lastI xs) a).1])
def followF (t : TraceT) (th a : Int) : List Int := folF t a (t.threads.length + 1) [th]
theorem stopF_go {t : TraceT} {a : Int} {xs : List Int} (h : stopF t a xs = false) : (nextF t (lastI xs) a).2 = true ∧ (atS t.states (nextF t (lastI xs) a).1 a).isSome = true ∧ xs.any (fun y => (nextF t (lastI xs) a).1 == y) = false := by
  unfold stopF at h
  rw [Bool.or_eq_false_iff, Bool.or_eq_false_iff, Bool.not_eq_false', Bool.not_eq_false'] at h
  exact ⟨h.1.1, h.1.2, h.2⟩
theorem next_has {t : TraceT} {th a : Int} (h : (nextF t th a).2 = true) : hasT t.threads (nextF t th a).1 = true := by
  unfold nextF at h ⊢
  simp only [Bool.and_eq_true] at h
  exact h.2
theorem k_follow (t : TraceT) (ht : t.Few) (th a : Int) : Pure Tryz.prog Gl 22 [.d t.toD, .d (.int .i64 th), .d (.int .i64 a)] (.d (.sl ((followF t th a).map (D.int .i64)))) := by
  refine Pure.of3 ?_
  have hth := ht.threads
  refine acalls_of Tryz.func22 rfl rfl (by simp [Tryz.ntmps22]) (evC_sound rfl _ _ _ _ ?_)
  simp only [Tryz.ntmps22, Tryz.results22, argEnv, List.length_nil]
  simp only [zC, seval, implies_true, Nat.reduceLeDiff, Nat.reduceEqDiff, reduceCtorEq, reduceIte]
  repeat ((with_reducible refine And.intro ?_ ?_); (focus (first | omega | (simp only [List.length_take, List.length_drop, List.length_map, List.length_append, List.length_cons]; omega) | (refine (show quietOp _ = true from ?_); rfl) | (refine (show drawOk _ _ _ _ _ _ _ from Or.inl ?_); kernel_rfl) | (intros; simp_all; done))))
  refine loop_of (τ := Nat × List Int) (fun p => [(2, .d (.int .i64 a)), (3, .ptr 0 0), (7, .osl 1 0 p.2.length)]) (fun p => [.box 10 (.d t.toD), .arr 1 (p.2.map (D.int .i64))]) (fun p => 0 < p.2.length ∧ p.2.length + p.1 = t.threads.length + 2 ∧ cntF t.threads p.2 < p.1 ∧ followF t th a = folF t a p.1 p.2) (fun p => p.1) (t.threads.length + 1, [th]) ⟨by simp, by simp; omega, ?_, rfl⟩ ?_ ?_
  · have := List.countP_le_length (p := fun x : ThreadT => !([th] : List Int).any (fun y => x.id == y)) (l := t.threads)
    unfold cntF; simp only; omega
  · refine weak_to [] [0, 1] rfl (by simp) ?_ rfl
    simp only [zC, seval, implies_true, Nat.reduceLeDiff, Nat.reduceEqDiff, reduceCtorEq, reduceIte]
    all_goals rfl
  · rintro ⟨n, xs⟩ ⟨h0, h1, h2, h3⟩
    simp only at h0 h1 h2 h3
    have e1 : IntKind.i64.wrap ((xs.length : Int) - 1) = ((xs.length - 1 : Nat) : Int) := by rw [wrap64 (by omega) (by omega)]; omega
    simp only [zC, seval, implies_true, Nat.reduceLeDiff, Nat.reduceEqDiff, reduceCtorEq, reduceIte, e1, (show ((xs.length - 1 : Nat) : Int) < xs.length by omega), (show xs.length - 1 < xs.length by omega), a_getD _ _ _ (show xs.length - 1 < xs.length by omega)]
    repeat ((with_reducible refine And.intro ?_ ?_); (focus (first | omega | (simp only [List.length_take, List.length_drop, List.length_map, List.length_append, List.length_cons]; omega) | (refine (show quietOp _ = true from ?_); rfl) | (refine (show drawOk _ _ _ _ _ _ _ from Or.inl ?_); kernel_rfl) | (intros; simp_all; done))))
    refine callF_pure (k_next t ht _ _) ?_
    have eL : xs.getD (xs.length - 1) default = lastI xs := rfl
    rw [eL]
    obtain ⟨q, eq⟩ : ∃ q, q = (nextF t (lastI xs) a).1 := ⟨_, rfl⟩
    obtain ⟨b, eb⟩ : ∃ b, b = (nextF t (lastI xs) a).2 := ⟨_, rfl⟩
    rw [← eq, ← eb]
    have hst : stopF t a xs = ((!b || !(atS t.states q a).isSome) || xs.any (fun y => q == y)) := by rw [stopF, ← eq, ← eb]
    simp only [zC, seval, implies_true, Nat.reduceLeDiff, Nat.reduceEqDiff, reduceCtorEq, reduceIte]
    repeat ((with_reducible refine And.intro ?_ ?_); (focus (first | omega | (simp only [List.length_take, List.length_drop, List.length_map, List.length_append, List.length_cons]; omega) | (refine (show quietOp _ = true from ?_); rfl) | (refine (show drawOk _ _ _ _ _ _ _ from Or.inl ?_); kernel_rfl) | (intros; simp_all; done))))
    refine callF_pure (k_At _ _ _ ht.states) ?_
    obtain ⟨o, eo⟩ : ∃ o, o = atS t.states q a := ⟨_, rfl⟩
    rw [← eo] at hst ⊢
    simp only [zC, seval, implies_true, Nat.reduceLeDiff, Nat.reduceEqDiff, reduceCtorEq, reduceIte]
    repeat ((with_reducible refine And.intro ?_ ?_); (focus (first | omega | (simp only [List.length_take, List.length_drop, List.length_map, List.length_append, List.length_cons]; omega) | (refine (show quietOp _ = true from ?_); rfl) | (refine (show drawOk _ _ _ _ _ _ _ from Or.inl ?_); kernel_rfl) | (intros; simp_all; done))))
    refine callG_at1 1 (fun B hB => k_Contains xs q (by omega) B hB) (fun _ => rfl) (by rfl) ?_
    simp only [zC, seval, implies_true, Nat.reduceLeDiff, Nat.reduceEqDiff, reduceCtorEq, reduceIte]
    repeat ((with_reducible refine And.intro ?_ ?_); (focus (first | omega | (simp only [List.length_take, List.length_drop, List.length_map, List.length_append, List.length_cons]; omega) | (refine (show quietOp _ = true from ?_); rfl) | (refine (show drawOk _ _ _ _ _ _ _ from Or.inl ?_); kernel_rfl) | (intros; simp_all; done))))
    obtain ⟨m, rfl⟩ : ∃ m, n = m + 1 := ⟨n - 1, by omega⟩
    refine ifC.mk (fun hc => ?_) (fun hc => ?_)
    · refine ⟨_, _, ret_data rfl ?_, rfl, rfl⟩
      rw [h3, folF, if_pos (by rw [hst]; exact hc)]
      simp only [zC, seval, implies_true, Nat.reduceLeDiff, Nat.reduceEqDiff, reduceCtorEq, reduceIte, take_all]
    · have hst2 : stopF t a xs = false := by rw [hst]; exact hc
      obtain ⟨g1, g2, g3⟩ := stopF_go hst2
      rw [folF, if_neg (by rw [hst2]; simp)] at h3
      have hlt := cnt_lt g3 (next_has g1)
      rw [← eq] at hlt h3
      simp only [zC, seval, implies_true, Nat.reduceLeDiff, Nat.reduceEqDiff, reduceCtorEq, reduceIte, take_all]
      repeat ((with_reducible refine And.intro ?_ ?_); (focus (first | omega | (simp only [List.length_take, List.length_drop, List.length_map, List.length_append, List.length_cons]; omega) | (refine (show quietOp _ = true from ?_); rfl) | (refine (show drawOk _ _ _ _ _ _ _ from Or.inl ?_); kernel_rfl) | (intros; simp_all; done))))
      refine ⟨(m, xs ++ [q]), ⟨by simp, by simp; omega, by simp only; omega, h3⟩, by simp only; omega, ?_⟩
      refine weak_to [] [0, 4] rfl (by simp) ?_ ?_
      · simp only [zC, seval, implies_true, Nat.reduceLeDiff, Nat.reduceEqDiff, reduceCtorEq, reduceIte, List.length_append]
        all_goals rfl
      · simp only [zC, seval, implies_true, Nat.reduceLeDiff, Nat.reduceEqDiff, reduceCtorEq, reduceIte, List.map_append]
        all_goals rfl
def hopF (t : TraceT) (a n : Int) : HopT := ⟨n, ((atS t.states n a).getD default).state, ((atS t.states n a).getD default).lo, ((atS t.states n a).getD default).hi⟩
def chainF (t : TraceT) (th a : Int) : List HopT × Int :=
  if traceF t ≠ 0 then ([], traceF t) else if hasT t.threads th = false then ([], 5) else if (atS t.states th a).isSome = false then ([], 2) else ((followF t th a).map (hopF t a), 0)
theorem folF_len (t : TraceT) (a : Int) : ∀ (n : Nat) (xs : List Int), (folF t a n xs).length ≤ xs.length + n
  | 0, xs => Nat.le_refl _
  | n + 1, xs => by
    rw [folF]
    split
    · omega
    · have := folF_len t a n (xs ++ [(nextF t (lastI xs) a).1])
      rw [List.length_append] at this
      simp only [List.length_cons, List.length_nil] at this
      omega
theorem followF_len (t : TraceT) (th a : Int) : (followF t th a).length ≤ t.threads.length + 2 := by
  have := folF_len t a (t.threads.length + 1) [th]
  simp only [List.length_cons, List.length_nil] at this
  unfold followF; omega
theorem k_Chain (t : TraceT) (ht : t.Few) (th a : Int) : Pure Tryz.prog Gl 9 [.d t.toD, .d (.int .i64 th), .d (.int .i64 a)] (.tup [.d (.sl ((chainF t th a).1.map HopT.toD)), .d (.int .i64 (chainF t th a).2)]) := by
  refine Pure.of3t2 ?_
  have hth := ht.threads
  obtain ⟨F, hF⟩ : ∃ F, F = chainF t th a := ⟨_, rfl⟩
  rw [← hF]
  rw [chainF] at hF
  refine acalls_of Tryz.func9 rfl rfl (by simp [Tryz.ntmps9]) (evC_sound rfl _ _ _ _ ?_)
  simp only [Tryz.ntmps9, Tryz.results9, argEnv, List.length_nil]
  simp only [zC, seval, implies_true, Nat.reduceLeDiff, Nat.reduceEqDiff, reduceCtorEq, reduceIte]
  repeat ((with_reducible refine And.intro ?_ ?_); (focus (first | omega | (simp only [List.length_take, List.length_drop, List.length_map, List.length_append, List.length_cons]; omega) | (refine (show quietOp _ = true from ?_); rfl) | (refine (show drawOk _ _ _ _ _ _ _ from Or.inl ?_); kernel_rfl) | (intros; simp_all; done))))
  refine callF_pure (k_traceCheck t ht) ?_
  simp only [zC, seval, implies_true, Nat.reduceLeDiff, Nat.reduceEqDiff, reduceCtorEq, reduceIte]
  refine ifC.mk (fun h1 => ?_) (fun h1 => ?_)
  · have h1 := bne_iff_ne.1 h1
    rw [if_pos h1] at hF
    repeat ((with_reducible refine And.intro ?_ ?_); (focus (first | omega | (simp only [List.length_take, List.length_drop, List.length_map, List.length_append, List.length_cons]; omega) | (refine (show quietOp _ = true from ?_); rfl) | (refine (show drawOk _ _ _ _ _ _ _ from Or.inl ?_); kernel_rfl) | (intros; simp_all; done))))
    refine ⟨_, _, ret_tdata (x := .sl []) (by rfl) (by rfl), ?_, rfl⟩
    rw [hF]; rfl
  · have h1 : traceF t = 0 := by simpa using h1
    rw [if_neg (by rw [h1]; simp)] at hF
    refine callF_pure (k_known t ht _) ?_
    simp only [zC, seval, implies_true, Nat.reduceLeDiff, Nat.reduceEqDiff, reduceCtorEq, reduceIte]
    refine ifC.mk (fun h2 => ?_) (fun h2 => ?_)
    · rw [if_pos (by rw [← Bool.not_eq_true']; exact h2)] at hF
      repeat ((with_reducible refine And.intro ?_ ?_); (focus (first | omega | (simp only [List.length_take, List.length_drop, List.length_map, List.length_append, List.length_cons]; omega) | (refine (show quietOp _ = true from ?_); rfl) | (refine (show drawOk _ _ _ _ _ _ _ from Or.inl ?_); kernel_rfl) | (intros; simp_all; done))))
      refine ⟨_, _, ret_tdata (x := .sl []) (by rfl) (by rfl), ?_, rfl⟩
      rw [hF]; rfl
    · rw [if_neg (by intro e; rw [e] at h2; cases h2)] at hF
      repeat ((with_reducible refine And.intro ?_ ?_); (focus (first | omega | (simp only [List.length_take, List.length_drop, List.length_map, List.length_append, List.length_cons]; omega) | (refine (show quietOp _ = true from ?_); rfl) | (refine (show drawOk _ _ _ _ _ _ _ from Or.inl ?_); kernel_rfl) | (intros; simp_all; done))))
      refine callF_pure (k_At _ _ _ ht.states) ?_
      simp only [zC, seval, implies_true, Nat.reduceLeDiff, Nat.reduceEqDiff, reduceCtorEq, reduceIte]
      repeat ((with_reducible refine And.intro ?_ ?_); (focus (first | omega | (simp only [List.length_take, List.length_drop, List.length_map, List.length_append, List.length_cons]; omega) | (refine (show quietOp _ = true from ?_); rfl) | (refine (show drawOk _ _ _ _ _ _ _ from Or.inl ?_); kernel_rfl) | (intros; simp_all; done))))
      refine ifC.mk (fun h3 => ?_) (fun h3 => ?_)
      · rw [if_pos (by rw [← Bool.not_eq_true']; exact h3)] at hF
        repeat ((with_reducible refine And.intro ?_ ?_); (focus (first | omega | (simp only [List.length_take, List.length_drop, List.length_map, List.length_append, List.length_cons]; omega) | (refine (show quietOp _ = true from ?_); rfl) | (refine (show drawOk _ _ _ _ _ _ _ from Or.inl ?_); kernel_rfl) | (intros; simp_all; done))))
        refine ⟨_, _, ret_tdata (x := .sl []) (by rfl) (by rfl), ?_, rfl⟩
        rw [hF]; rfl
      · rw [if_neg (by intro e; rw [e] at h3; cases h3)] at hF
        repeat ((with_reducible refine And.intro ?_ ?_); (focus (first | omega | (simp only [List.length_take, List.length_drop, List.length_map, List.length_append, List.length_cons]; omega) | (refine (show quietOp _ = true from ?_); rfl) | (refine (show drawOk _ _ _ _ _ _ _ from Or.inl ?_); kernel_rfl) | (intros; simp_all; done))))
        refine callF_pure (k_follow t ht _ _) ?_
        obtain ⟨xs, hxs⟩ : ∃ xs, xs = followF t th a := ⟨_, rfl⟩
        have hxl := followF_len t th a
        rw [← hxs] at hF hxl ⊢
        simp only [zC, seval, implies_true, Nat.reduceLeDiff, Nat.reduceEqDiff, reduceCtorEq, reduceIte]
        refine for_of xs.length (fun k => [(2, .d (.int .i64 a)), (3, .ptr 0 0), (11, .osl 1 0 k), (38, .d (.sl (xs.map (D.int .i64)))), (39, .d (.int .i64 xs.length)), (40, .d (.int .i64 k))]) (fun k => [.box 10 (.d t.toD), .arr 4 (((xs.take k).map (hopF t a)).map HopT.toD)]) (fun _ => True) trivial ?_ ?_
        · refine (weak_nils 11 4 rfl).trans ?_
          refine weak_to [] [0, 2] rfl (by simp) ?_ ?_
          · simp only [zC, seval, implies_true, Nat.reduceLeDiff, Nat.reduceEqDiff, reduceCtorEq, reduceIte, Int.cast_ofNat_Int]
            all_goals rfl
          · rfl
        · intro k _ hk
          have hlk : ((xs.take k).map (hopF t a)).length = k := by rw [List.length_map, List.length_take]; omega
          by_cases h : k < xs.length
          · simp only [zC, seval, implies_true, Nat.reduceLeDiff, Nat.reduceEqDiff, reduceCtorEq, reduceIte, (show (k:Int) < xs.length by omega), h, a_getD _ _ _ (show k < xs.length by omega)]
            refine callF_pure (k_At _ _ _ ht.states) ?_
            have htk : List.take k (List.map HopT.toD (List.map (hopF t a) (List.take k xs))) = List.map HopT.toD (List.map (hopF t a) (List.take k xs)) := List.take_of_length_le (by rw [List.length_map, hlk]; exact Nat.le_refl _)
            simp only [zC, seval, implies_true, Nat.reduceLeDiff, Nat.reduceEqDiff, reduceCtorEq, reduceIte, hlk, htk]
            repeat ((with_reducible refine And.intro ?_ ?_); (focus (first | omega | (simp only [List.length_take, List.length_drop, List.length_map, List.length_append, List.length_cons]; omega) | (refine (show quietOp _ = true from ?_); rfl) | (refine (show drawOk _ _ _ _ _ _ _ from Or.inl ?_); kernel_rfl) | (intros; simp_all; done))))
            refine weak_to [] [0, 4] rfl (by simp) ?_ ?_
            · simp only [zC, seval, implies_true, Nat.reduceLeDiff, Nat.reduceEqDiff, reduceCtorEq, reduceIte, @a_wrap ((k:Int) + 1) (by omega)]
              all_goals rfl
            · rw [take_step xs k h]
              simp only [zC, seval, implies_true, Nat.reduceLeDiff, Nat.reduceEqDiff, reduceCtorEq, reduceIte, List.map_append]
              all_goals rfl
          · simp only [zC, seval, implies_true, Nat.reduceLeDiff, Nat.reduceEqDiff, reduceCtorEq, reduceIte, (show ¬ (k:Int) < xs.length by omega)]
            have : k = xs.length := by omega
            subst this
            refine ⟨_, _, ret_tdata rfl rfl, ?_, rfl⟩
            rw [hF]
            simp only [zC, seval, implies_true, Nat.reduceLeDiff, Nat.reduceEqDiff, reduceCtorEq, reduceIte, List.take_length]
            rw [List.take_of_length_le (by simp)]
def circB (t : TraceT) (a id : Int) : Bool := (nextF t (lastI (followF t id a)) a).2 && ((nextF t (lastI (followF t id a)) a).1 == id)
def deadF (t : TraceT) (a : Int) : List Int × Int := if traceF t ≠ 0 then ([], traceF t) else (((t.threads.filter fun x => circB t a x.id).map fun x => x.id), 0)
theorem folF_pos (t : TraceT) (a : Int) : ∀ (n : Nat) (xs : List Int), 0 < xs.length → 0 < (folF t a n xs).length
  | 0, xs, h => h
  | n + 1, xs, h => by
    rw [folF]
    split
    · exact h
    · exact folF_pos t a n _ (by simp)
theorem filter_snoc {α : Type} [Inhabited α] (p : α → Bool) (l : List α) (k : Nat) (h : k < l.length) : (l.take (k + 1)).filter p = if p (l.getD k default) = true then (l.take k).filter p ++ [l.getD k default] else (l.take k).filter p := by
  rw [take_step l k h, List.filter_append]
  by_cases hp : p (l.getD k default) = true
  · rw [if_pos hp]; simp only [List.filter_cons, hp, if_true, List.filter_nil]
  · rw [if_neg hp]; simp only [List.filter_cons, hp, List.filter_nil]; simp
theorem k_Deadlock (t : TraceT) (ht : t.Few) (a : Int) : Pure Tryz.prog Gl 11 [.d t.toD, .d (.int .i64 a)] (.tup [.d (.sl ((deadF t a).1.map (D.int .i64))), .d (.int .i64 (deadF t a).2)]) := by
  refine Pure.of2t2 ?_
  have hth := ht.threads
  obtain ⟨F, hF⟩ : ∃ F, F = deadF t a := ⟨_, rfl⟩
  rw [← hF]
  rw [deadF] at hF
  refine acalls_of Tryz.func11 rfl rfl (by simp [Tryz.ntmps11]) (evC_sound rfl _ _ _ _ ?_)
  simp only [Tryz.ntmps11, Tryz.results11, argEnv, List.length_nil]
  simp only [zC, seval, implies_true, Nat.reduceLeDiff, Nat.reduceEqDiff, reduceCtorEq, reduceIte]
  repeat ((with_reducible refine And.intro ?_ ?_); (focus (first | omega | (simp only [List.length_take, List.length_drop, List.length_map, List.length_append, List.length_cons]; omega) | (refine (show quietOp _ = true from ?_); rfl) | (refine (show drawOk _ _ _ _ _ _ _ from Or.inl ?_); kernel_rfl) | (intros; simp_all; done))))
  refine callF_pure (k_traceCheck t ht) ?_
  simp only [zC, seval, implies_true, Nat.reduceLeDiff, Nat.reduceEqDiff, reduceCtorEq, reduceIte]
  refine ifC.mk (fun h1 => ?_) (fun h1 => ?_)
  · have h1 := bne_iff_ne.1 h1
    rw [if_pos h1] at hF
    repeat ((with_reducible refine And.intro ?_ ?_); (focus (first | omega | (simp only [List.length_take, List.length_drop, List.length_map, List.length_append, List.length_cons]; omega) | (refine (show quietOp _ = true from ?_); rfl) | (refine (show drawOk _ _ _ _ _ _ _ from Or.inl ?_); kernel_rfl) | (intros; simp_all; done))))
    refine ⟨_, _, ret_tdata (x := .sl []) (by rfl) (by rfl), ?_, rfl⟩
    rw [hF]; rfl
  · have h1 : traceF t = 0 := by simpa using h1
    rw [if_neg (by rw [h1]; simp)] at hF
    repeat ((with_reducible refine And.intro ?_ ?_); (focus (first | omega | (simp only [List.length_take, List.length_drop, List.length_map, List.length_append, List.length_cons]; omega) | (refine (show quietOp _ = true from ?_); rfl) | (refine (show drawOk _ _ _ _ _ _ _ from Or.inl ?_); kernel_rfl) | (intros; simp_all; done))))
    obtain ⟨P, hP⟩ : ∃ P : ThreadT → Bool, P = fun x => circB t a x.id := ⟨_, rfl⟩
    rw [← hP] at hF
    refine for_of t.threads.length (fun k => [(1, .d (.int .i64 a)), (2, .ptr 0 0), (7, .osl 1 0 ((t.threads.take k).filter P).length), (19, .d (.sl (t.threads.map ThreadT.toD))), (20, .d (.int .i64 t.threads.length)), (21, .d (.int .i64 k))]) (fun k => [.box 10 (.d t.toD), .arr 1 (((t.threads.take k).filter P).map fun x => D.int .i64 x.id)]) (fun _ => True) trivial ?_ ?_
    · refine (weak_nils 7 1 rfl).trans ?_
      refine weak_to [] [0, 1] rfl (by simp) ?_ ?_
      · simp only [zC, seval, implies_true, Nat.reduceLeDiff, Nat.reduceEqDiff, reduceCtorEq, reduceIte, Int.cast_ofNat_Int]
        all_goals rfl
      · rfl
    · intro k _ hk
      have hfl : ((t.threads.take k).filter P).length ≤ k := by
        have := List.length_filter_le P (t.threads.take k)
        have h2 : (t.threads.take k).length ≤ k := by simp; omega
        omega
      by_cases h : k < t.threads.length
      · have hs := filter_snoc P t.threads k h
        obtain ⟨ys, hys⟩ : ∃ ys, ys = (t.threads.take k).filter P := ⟨_, rfl⟩
        obtain ⟨x, hx⟩ : ∃ x, x = t.threads.getD k default := ⟨_, rfl⟩
        rw [← hys, ← hx] at hs
        rw [← hys] at hfl ⊢
        simp only [zC, seval, implies_true, Nat.reduceLeDiff, Nat.reduceEqDiff, reduceCtorEq, reduceIte, (show (k:Int) < t.threads.length by omega), h, a_getD _ _ _ (show k < t.threads.length by omega), ← hx]
        repeat ((with_reducible refine And.intro ?_ ?_); (focus (first | omega | (simp only [List.length_take, List.length_drop, List.length_map, List.length_append, List.length_cons]; omega) | (refine (show quietOp _ = true from ?_); rfl) | (refine (show drawOk _ _ _ _ _ _ _ from Or.inl ?_); kernel_rfl) | (intros; simp_all; done))))
        refine callF_pure (k_follow t ht _ _) ?_
        obtain ⟨xs, hxs⟩ : ∃ xs, xs = followF t x.id a := ⟨_, rfl⟩
        have hxl := followF_len t x.id a
        have hxp : 0 < (followF t x.id a).length := folF_pos t a _ _ (by simp)
        have hPx : P x = ((nextF t (lastI xs) a).2 && ((nextF t (lastI xs) a).1 == x.id)) := by rw [hP, hxs]; rfl
        rw [← hxs] at hxl hxp ⊢
        have e1 : IntKind.i64.wrap ((xs.length : Int) - 1) = ((xs.length - 1 : Nat) : Int) := by rw [wrap64 (by omega) (by omega)]; omega
        simp only [zC, seval, implies_true, Nat.reduceLeDiff, Nat.reduceEqDiff, reduceCtorEq, reduceIte, e1, (show ((xs.length - 1 : Nat) : Int) < xs.length by omega), (show xs.length - 1 < xs.length by omega), a_getD _ _ _ (show xs.length - 1 < xs.length by omega)]
        repeat ((with_reducible refine And.intro ?_ ?_); (focus (first | omega | (simp only [List.length_take, List.length_drop, List.length_map, List.length_append, List.length_cons]; omega) | (refine (show quietOp _ = true from ?_); rfl) | (refine (show drawOk _ _ _ _ _ _ _ from Or.inl ?_); kernel_rfl) | (intros; simp_all; done))))
        refine callF_pure (k_next t ht _ _) ?_
        rw [show xs.getD (xs.length - 1) default = lastI xs from rfl]
        simp only [zC, seval, implies_true, Nat.reduceLeDiff, Nat.reduceEqDiff, reduceCtorEq, reduceIte]
        repeat ((with_reducible refine And.intro ?_ ?_); (focus (first | omega | (simp only [List.length_take, List.length_drop, List.length_map, List.length_append, List.length_cons]; omega) | (refine (show quietOp _ = true from ?_); rfl) | (refine (show drawOk _ _ _ _ _ _ _ from Or.inl ?_); kernel_rfl) | (intros; simp_all; done))))
        refine ifC.mk (fun hc => ?_) (fun hc => ?_)
        · rw [if_pos (by rw [hPx]; exact hc)] at hs
          simp only [zC, seval, implies_true, Nat.reduceLeDiff, Nat.reduceEqDiff, reduceCtorEq, reduceIte, take_all]
          repeat ((with_reducible refine And.intro ?_ ?_); (focus (first | omega | (simp only [List.length_take, List.length_drop, List.length_map, List.length_append, List.length_cons]; omega) | (refine (show quietOp _ = true from ?_); rfl) | (refine (show drawOk _ _ _ _ _ _ _ from Or.inl ?_); kernel_rfl) | (intros; simp_all; done))))
          rw [hs]
          refine weak_to [] [0, 4] rfl (by simp) ?_ ?_
          · simp only [zC, seval, implies_true, Nat.reduceLeDiff, Nat.reduceEqDiff, reduceCtorEq, reduceIte, @a_wrap ((k:Int) + 1) (by omega), List.length_append]
            all_goals rfl
          · simp only [zC, seval, implies_true, Nat.reduceLeDiff, Nat.reduceEqDiff, reduceCtorEq, reduceIte, List.map_append]
            all_goals rfl
        · rw [if_neg (by rw [hPx, hc]; simp)] at hs
          rw [hs]
          refine weak_to [] [0, 1] rfl (by simp) ?_ ?_
          · simp only [zC, seval, implies_true, Nat.reduceLeDiff, Nat.reduceEqDiff, reduceCtorEq, reduceIte, @a_wrap ((k:Int) + 1) (by omega)]
            all_goals rfl
          · rfl
      · have : k = t.threads.length := by omega
        subst this
        simp only [zC, seval, implies_true, Nat.reduceLeDiff, Nat.reduceEqDiff, reduceCtorEq, reduceIte, (show ¬ (t.threads.length:Int) < t.threads.length by omega), List.take_length]
        refine ⟨_, _, ret_tdata rfl rfl, ?_, rfl⟩
        rw [hF]
        simp only [zC, seval, implies_true, Nat.reduceLeDiff, Nat.reduceEqDiff, reduceCtorEq, reduceIte, List.take_length, List.map_map, take_all]
        all_goals rfl
end YtccgdcmgjdhikaaGreat
end Go.Proofs
