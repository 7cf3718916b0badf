/- A part of the proof: contracts of functions of this seat, and lemmas. No condition beyond those stated. -/
import Derived.Test.YtccgdcmgjdhikaaGreatWzin2
set_option linter.unusedVariables false
set_option linter.unusedSimpArgs false
set_option linter.unusedSectionVars false
set_option linter.unnecessarySimpa false
set_option linter.unusedSimpArgs false
set_option linter.unusedVariables false
set_option maxRecDepth 100000
namespace Go.Proofs
open Go.AM
namespace YtccgdcmgjdhikaaGreat
variable {Gl : Globs}
/-! ### sorted lists of pairs -/
def pD (p : Int × Int) : D := .agg [.int .i64 p.1, .int .i64 p.2]
theorem pD_cells (p : Int × Int) : (pD p).cells = [.int .i64 p.1, .int .i64 p.2] := rfl
theorem pD_isAgg (p : Int × Int) : (pD p).isAgg = true := rfl
def Srt (l : List (Int × Int)) : Prop := l.Pairwise fun a b => a.1 < b.1
def posI (l : List (Int × Int)) (x : Int) : Nat := match l with
  | [] => 0
  | p :: r => if p.1 < x then posI r x + 1 else 0
theorem posI_le (l : List (Int × Int)) (x : Int) : posI l x ≤ l.length := by
  induction l with
  | nil => simp [posI]
  | cons p r ih => unfold posI; split <;> simp <;> omega
theorem posI_lt {l : List (Int × Int)} (hs : Srt l) (x : Int) {h : Nat} (hh : h < l.length) : (l.getD h default).1 < x ↔ h < posI l x := by
  induction l generalizing h with
  | nil => simp at hh
  | cons p r ih =>
    obtain ⟨h1, h2⟩ := List.pairwise_cons.1 hs
    unfold posI
    cases h with
    | zero =>
      simp only [List.getD_cons_zero]
      split <;> simp <;> omega
    | succ h =>
      have hr : h < r.length := by simpa using hh
      simp only [List.getD_cons_succ]
      split
      · rw [ih h2 hr]; omega
      · have := h1 _ (List.getElem_mem hr)
        rw [List.getD_eq_getElem?_getD, List.getElem?_eq_getElem hr]
        simp
        omega
def hasI (l : List (Int × Int)) (x : Int) : Bool := decide ((posI l x : Int) < (l.length : Int)) && decide (cmpI (l.getD (posI l x) default).1 x = 0)
theorem k_Blame1 (p : Int × Int) (x : Int) : Pure Tryz.prog Gl 31 [.d (pD p), .d (.int .i64 x)] (.d (.int .i64 (cmpI p.1 x))) := by
  refine Pure.of2 ?_
  refine acalls_of Tryz.func31 rfl rfl (by simp [Tryz.ntmps31]) (evC_sound rfl _ _ _ _ ?_)
  simp only [Tryz.ntmps31, Tryz.results31, argEnv, List.length_nil]
  simp only [zC, seval, implies_true, Nat.reduceLeDiff, Nat.reduceEqDiff, reduceCtorEq, reduceIte]
  repeat ((with_reducible refine And.intro ?_ ?_); (focus (first | omega | (simp only [List.length_take, List.length_drop, List.length_map, List.length_append, List.length_cons]; omega) | (refine (show quietOp _ = true from ?_); rfl) | (refine (show drawOk _ _ _ _ _ _ _ from Or.inl ?_); kernel_rfl) | (intros; simp_all; done))))
  simp only [zC, seval, implies_true, Nat.reduceLeDiff, Nat.reduceEqDiff, reduceCtorEq, reduceIte, pD]
  refine ⟨by first | rfl | decide | trivial | simp [aidxOk], ?_⟩
  refine callF_pure (k_Compare _ _) ?_
  simp only [zC, seval, implies_true, Nat.reduceLeDiff, Nat.reduceEqDiff, reduceCtorEq, reduceIte]
  refine ⟨_, _, ret_d, ?_, rfl⟩
  rfl
theorem k_BSF (l : List (Int × Int)) (hs : Srt l) (n : Nat) (hn : l.length = n) (hb : n < 1000000) (fv : FuncId) (x : Int) (hf : ∀ p, Pure Tryz.prog Gl fv [.d (pD p), .d (.int .i64 x)] (.d (.int .i64 (cmpI p.1 x)))) :
    ACalls Tryz.prog Gl 30 [.osl 0 0 n, .d (.int .i64 x), .fn fv []] [.arr 2 (l.map pD)] (fun r s => r = .tup [.d (.int .i64 (posI l x)), .d (.bool (hasI l x))] ∧ s = [.arr 2 (l.map pD)]) := by
  refine acalls_of Tryz.func30 rfl rfl (by simp [Tryz.ntmps30]) (evC_sound rfl _ _ _ _ ?_)
  simp only [Tryz.ntmps30, Tryz.results30, argEnv, List.length_nil]
  simp only [zC, seval, implies_true, Nat.reduceLeDiff, Nat.reduceEqDiff, reduceCtorEq, reduceIte]
  have hp := posI_le l x
  refine loop_of (τ := Nat × Nat) (fun k => [(0, .osl 0 0 n), (1, .d (.int .i64 x)), (2, .fn fv []), (8, .d (.int .i64 n)), (9, .d (.int .i64 k.1)), (10, .d (.int .i64 k.2))]) (fun _ => [.arr 2 (l.map pD)]) (fun k => k.1 ≤ posI l x ∧ posI l x ≤ k.2 ∧ k.2 ≤ n) (fun k => k.2 - k.1) (0, n) ⟨by simp, by simp; omega, by simp⟩ ?_ ?_
  · refine weak_to [] [0] rfl (by simp) ?_ rfl
    simp only [zC, seval, implies_true, Nat.reduceLeDiff, Nat.reduceEqDiff, reduceCtorEq, reduceIte, Int.cast_ofNat_Int]
    all_goals rfl
  · rintro ⟨i, j⟩ ⟨hi, hj, hjn⟩
    simp only at hi hj hjn
    by_cases h : i < j
    · have hm : ((i : Int) + j).toNat / 2 = (i + j) / 2 := by omega
      obtain ⟨m, hmd⟩ : ∃ m, m = (i + j) / 2 := ⟨_, rfl⟩
      have hml : m < l.length := by omega
      have esh : intBin BinOp.shr IntKind.u64 (IntKind.u64.wrap (IntKind.i64.wrap ((i : Int) + j))) 1 = .int .u64 (m : Int) := by
        have w1 : IntKind.i64.wrap ((i : Int) + j) = ((i + j : Nat) : Int) := by rw [wrap64 (by omega) (by omega)]; omega
        have w2 : IntKind.u64.wrap ((i + j : Nat) : Int) = ((i + j : Nat) : Int) := by simp [IntKind.wrap, IntKind.signed, IntKind.bits]; omega
        rw [w1, w2, hmd]
        have e2 : (2 : Int) ^ (min (1 : Int).toNat IntKind.u64.bits) = 2 := by decide
        simp only [intBin, e2]
        congr 1
        rw [Int.fdiv_eq_ediv_of_nonneg _ (by omega)]
        omega
      have wm : IntKind.i64.wrap (m : Int) = (m : Int) := wrap64 (by omega) (by omega)
      have wm1 : IntKind.i64.wrap ((m : Int) + 1) = ((m + 1 : Nat) : Int) := by rw [wrap64 (by omega) (by omega)]; omega
      have emt : ((m : Int)).toNat = m := rfl
      simp only [zC, seval, implies_true, Nat.reduceLeDiff, Nat.reduceEqDiff, reduceCtorEq, reduceIte, (show (i : Int) < (j : Int) by omega), esh, wm, (show (m : Int) < n by omega), (show m < l.length by omega), a_getD _ _ _ (show m < l.length by omega), pD_isAgg]
      repeat ((with_reducible refine And.intro ?_ ?_); (focus (first | omega | (simp only [List.length_take, List.length_drop, List.length_map, List.length_append, List.length_cons]; omega) | (refine (show quietOp _ = true from ?_); rfl) | (refine (show drawOk _ _ _ _ _ _ _ from Or.inl ?_); kernel_rfl) | (intros; simp_all; done))))
      refine callF_pure (hf _) ?_
      simp only [zC, seval, implies_true, Nat.reduceLeDiff, Nat.reduceEqDiff, reduceCtorEq, reduceIte]
      have hlt := posI_lt hs x hml
      rcases cmpI_cases (l.getD m default).1 x with ⟨q, e⟩ | ⟨q, e⟩ | ⟨q, e⟩
      · have := hlt.1 q
        simp only [zC, seval, implies_true, Nat.reduceLeDiff, Nat.reduceEqDiff, reduceCtorEq, reduceIte, e, wm1]
        refine ⟨(m + 1, j), ⟨by simp only; omega, by simp only; omega, by simp only; omega⟩, by simp only; omega, ?_⟩
        refine weak_to [] [0] rfl (by simp) ?_ rfl
        simp only [zC, seval, implies_true, Nat.reduceLeDiff, Nat.reduceEqDiff, reduceCtorEq, reduceIte]
        all_goals rfl
      · have : ¬ m < posI l x := fun h => by have := hlt.2 h; omega
        simp only [zC, seval, implies_true, Nat.reduceLeDiff, Nat.reduceEqDiff, reduceCtorEq, reduceIte, e]
        refine ⟨(i, m), ⟨by simp only; omega, by simp only; omega, by simp only; omega⟩, by simp only; omega, ?_⟩
        refine weak_to [] [0] rfl (by simp) ?_ rfl
        simp only [zC, seval, implies_true, Nat.reduceLeDiff, Nat.reduceEqDiff, reduceCtorEq, reduceIte]
        all_goals rfl
      · have : ¬ m < posI l x := fun h => by have := hlt.2 h; omega
        simp only [zC, seval, implies_true, Nat.reduceLeDiff, Nat.reduceEqDiff, reduceCtorEq, reduceIte, e]
        refine ⟨(i, m), ⟨by simp only; omega, by simp only; omega, by simp only; omega⟩, by simp only; omega, ?_⟩
        refine weak_to [] [0] rfl (by simp) ?_ rfl
        simp only [zC, seval, implies_true, Nat.reduceLeDiff, Nat.reduceEqDiff, reduceCtorEq, reduceIte]
        all_goals rfl
    · have hip : i = posI l x := by omega
      simp only [zC, seval, implies_true, Nat.reduceLeDiff, Nat.reduceEqDiff, reduceCtorEq, reduceIte, (show ¬ (i : Int) < (j : Int) by omega)]
      refine ⟨fun h => by simpa using h, fun h => ?_, ?_⟩
      · have hil : i < l.length := by simp at h; omega
        exact ⟨hil, by simp only [zC, seval, implies_true, Nat.reduceLeDiff, Nat.reduceEqDiff, reduceCtorEq, reduceIte, a_getD _ _ _ (show i < l.length by omega), pD_isAgg]⟩
      refine callG_pure (v := .d (.int .i64 (cmpI (l.getD i default).1 x))) (fun h => ?_) ?_
      · have hil : i < l.length := by simp at h; omega
        simp only [zC, seval, implies_true, Nat.reduceLeDiff, Nat.reduceEqDiff, reduceCtorEq, reduceIte, a_getD _ _ _ (show i < l.length by omega)]
        exact hf _
      simp only [zC, seval, implies_true, Nat.reduceLeDiff, Nat.reduceEqDiff, reduceCtorEq, reduceIte]
      refine ⟨_, _, WeakR.refl _ _ _, ?_, rfl⟩
      rw [hip, hasI, hn]
      rfl
theorem k_InsertEnd (xs : List D) (e : D) (n : Nat) (hxl : xs.length = n) (hb : n < 1000000) (he : e.cells.length = 2) :
    ACalls Tryz.prog Gl 33 [.osl 0 0 n, .d (.int .i64 n), .osl 1 0 1] [.arr 2 xs, .arr 2 [e]] (fun r s => r = .osl 2 0 (n + 1) ∧ s = [.dead, .arr 2 [e], .arr 2 (xs ++ [e])]) := by
  refine acalls_of Tryz.func33 rfl rfl (by simp [Tryz.ntmps33]) (evC_sound rfl _ _ _ _ ?_)
  simp only [Tryz.ntmps33, Tryz.results33, argEnv, List.length_nil]
  simp only [zC, seval, implies_true, Nat.reduceLeDiff, Nat.reduceEqDiff, reduceCtorEq, reduceIte]
  refine ⟨Int.le_refl _, ?_⟩
  refine ifC.mk (fun hc => ?_) (fun hc => ?_)
  · refine ⟨⟨by omega, by omega⟩, _, _, WeakR.refl _ _ _, rfl, ?_⟩
    rw [← hxl, List.take_length]
  · simp at hc
theorem k_Insert (xs : List D) (e : D) (n i : Nat) (hxl : xs.length = n) (hi : i ≤ n) (hb : n < 1000000) (hx : ∀ x ∈ xs, x.cells.length = 2) (he : e.cells.length = 2) (hef : e.flat) :
    ACalls Tryz.prog Gl 33 [.osl 0 0 n, .d (.int .i64 i), .osl 1 0 1] [.arr 2 xs, .arr 2 [e]] (fun r s => r = .osl 2 0 (n + 1) ∧ s = [.dead, .arr 2 [e], .arr 2 (xs.take i ++ e :: xs.drop i)]) := by
  by_cases h : i = n
  · subst h
    rw [← hxl, List.take_length, List.drop_length, hxl]
    exact k_InsertEnd xs e i hxl hb he
  · exact k_InsertMid xs e n i hxl (by omega) (by omega) hx he hef
def addB (l : List (Int × Int)) (x n : Int) : List (Int × Int) := match l with
  | [] => [(x, n)]
  | p :: r => if p.1 < x then p :: addB r x n else if p.1 = x then (p.1, p.2 + n) :: r else (x, n) :: p :: r
theorem hasI_cons {p : Int × Int} {r : List (Int × Int)} {x : Int} (h : p.1 < x) : hasI (p :: r) x = hasI r x := by
  unfold hasI
  simp only [posI, if_pos h, List.getD_cons_succ, List.length_cons]
  congr 1
  rw [decide_eq_decide]; omega
theorem addB_has {x : Int} (n : Int) : ∀ {l : List (Int × Int)}, hasI l x = true → posI l x < l.length ∧ (l.getD (posI l x) default).1 = x ∧ addB l x n = l.set (posI l x) ((l.getD (posI l x) default).1, (l.getD (posI l x) default).2 + n)
  | [], h => by simp [hasI, posI] at h
  | p :: r, h => by
    unfold addB
    by_cases hp : p.1 < x
    · rw [hasI_cons hp] at h
      obtain ⟨h1, h2, h3⟩ := addB_has n h
      simp only [posI, if_pos hp, List.getD_cons_succ, List.set_cons_succ, List.length_cons]
      exact ⟨by omega, h2, by rw [h3]⟩
    · have : p.1 = x := by
        simp only [hasI, posI, if_neg hp, List.getD_cons_zero, Bool.and_eq_true, decide_eq_true_eq] at h
        rcases cmpI_cases p.1 x with ⟨q, e⟩ | ⟨q, e⟩ | ⟨q, e⟩ <;> omega
      simp only [posI, if_neg hp, List.getD_cons_zero, List.set_cons_zero, List.length_cons, if_pos this]
      exact ⟨by omega, this, trivial⟩
theorem addB_no {x : Int} (n : Int) : ∀ {l : List (Int × Int)}, hasI l x = false → addB l x n = l.take (posI l x) ++ (x, n) :: l.drop (posI l x)
  | [], h => rfl
  | p :: r, h => by
    unfold addB
    by_cases hp : p.1 < x
    · rw [hasI_cons hp] at h
      simp only [posI, if_pos hp, List.take_succ_cons, List.drop_succ_cons, List.cons_append]
      rw [addB_no n h]
    · have : ¬ p.1 = x := fun he => by
        simp only [hasI, posI, if_neg hp, List.getD_cons_zero, Bool.and_eq_false_iff, decide_eq_false_iff_not] at h
        rcases cmpI_cases p.1 x with ⟨q, e⟩ | ⟨q, e⟩ | ⟨q, e⟩ <;> simp at h <;> omega
      simp only [posI, if_neg hp, if_neg this, List.take_zero, List.drop_zero, List.nil_append]
theorem addB_len (x n : Int) : ∀ l : List (Int × Int), (addB l x n).length ≤ l.length + 1
  | [] => by simp [addB]
  | p :: r => by
    have := addB_len x n r
    unfold addB
    split
    · simp; omega
    · split <;> simp
theorem addB_fst {x n : Int} : ∀ {l : List (Int × Int)} {q : Int × Int}, q ∈ addB l x n → q.1 = x ∨ ∃ p ∈ l, p.1 = q.1
  | [], q, h => by simp [addB] at h; left; rw [h]
  | p :: r, q, h => by
    unfold addB at h
    split at h
    · rcases List.mem_cons.1 h with rfl | h
      · exact .inr ⟨_, List.mem_cons_self, rfl⟩
      · rcases addB_fst h with h | ⟨p', h1, h2⟩
        · exact .inl h
        · exact .inr ⟨p', List.mem_cons_of_mem _ h1, h2⟩
    · split at h
      · rcases List.mem_cons.1 h with rfl | h
        · exact .inr ⟨_, List.mem_cons_self, rfl⟩
        · exact .inr ⟨_, List.mem_cons_of_mem _ h, rfl⟩
      · rcases List.mem_cons.1 h with rfl | h
        · exact .inl rfl
        · exact .inr ⟨_, h, rfl⟩
theorem addB_srt {x n : Int} : ∀ {l : List (Int × Int)}, Srt l → Srt (addB l x n)
  | [], _ => by simp [addB, Srt]
  | p :: r, h => by
    obtain ⟨h1, h2⟩ := List.pairwise_cons.1 h
    unfold addB
    split
    · refine List.pairwise_cons.2 ⟨fun q hq => ?_, addB_srt h2⟩
      rcases addB_fst hq with e | ⟨p', m, e⟩
      · omega
      · have := h1 _ m; omega
    · split
      · exact List.pairwise_cons.2 ⟨fun q hq => h1 q hq, h2⟩
      · refine List.pairwise_cons.2 ⟨fun q hq => ?_, h⟩
        rcases List.mem_cons.1 hq with rfl | hq
        · simp only; omega
        · have := h1 _ hq; simp only; omega
theorem addB_bd {x n M N : Int} (hn : 0 < n) (hn2 : n ≤ N) (hM : 0 ≤ M) : ∀ {l : List (Int × Int)}, (∀ p ∈ l, 0 < p.2 ∧ p.2 ≤ M) → ∀ p ∈ addB l x n, 0 < p.2 ∧ p.2 ≤ M + N
  | [], _, p, h => by simp [addB] at h; rw [h]; simp only; omega
  | q :: r, hl, p, h => by
    have hq := hl q List.mem_cons_self
    unfold addB at h
    split at h
    · rcases List.mem_cons.1 h with rfl | h
      · omega
      · exact addB_bd hn hn2 hM (fun p hp => hl p (List.mem_cons_of_mem _ hp)) p h
    · split at h
      · rcases List.mem_cons.1 h with rfl | h
        · simp only; omega
        · have := hl p (List.mem_cons_of_mem _ h); omega
      · rcases List.mem_cons.1 h with rfl | h
        · simp only; omega
        · have := hl p h; omega
end YtccgdcmgjdhikaaGreat
end Go.Proofs
