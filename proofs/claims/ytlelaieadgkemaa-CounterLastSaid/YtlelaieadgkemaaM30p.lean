/- A part of the proof: contracts of functions of this seat, and lemmas. No condition beyond those stated. -/
import Derived.Test.YtlelaieadgkemaaM30o
import Derived.Test.YtlelaieadgkemaaM30j
import Derived.Test.YtlelaieadgkemaaG5
set_option linter.unusedVariables false
set_option linter.unusedSimpArgs false
set_option linter.unusedSectionVars false
set_option linter.unnecessarySimpa false
set_option linter.unusedSimpArgs false
set_option linter.unusedVariables false
set_option maxRecDepth 100000
namespace Go.Proofs
open Go.AM Go.ChangeShapes Go.WideShapes Go.ChangeAt Go.RowKit
namespace Ytlelaieadgkemaa

/-! ### events in order -/
structure Good (os : List TimedT) : Prop where
  val : ∀ o ∈ os, cntB o = true → nameF o.name = 0 ∧ inB o.n = true
  pw : os.Pairwise fun a b => timeF a ≤ timeF b
theorem name_ne {s : List UInt8} (h : nameF s = 0) : s ≠ [] := by
  intro e
  subst e
  simp [nameF, nameB] at h
theorem ordered_spec {os : List TimedT} (h : orderedB os = true) {k : Nat} (hk : k < os.length) : ordAt os k = true := by
  unfold orderedB at h
  rw [List.all_eq_true] at h
  exact h k (List.mem_range.2 hk)
theorem good_of {os : List TimedT} (h : orderedB os = true) : Good os := by
  have mono : ∀ j k, j ≤ k → k < os.length → timeF (os.getD j default) ≤ timeF (os.getD k default) := by
    intro j k
    induction k with
    | zero => intro h1 _; have : j = 0 := by omega
              subst this; exact Int.le_refl _
    | succ k ih =>
      intro h1 h2
      by_cases e : j = k + 1
      · subst e; exact Int.le_refl _
      · have h3 := ih (by omega) (by omega)
        have h4 := ordered_spec h h2
        unfold ordAt at h4
        simp only [Bool.and_eq_true, Bool.not_eq_true', Bool.and_eq_false_iff, decide_eq_false_iff_not, Nat.add_sub_cancel] at h4
        omega
  refine ⟨fun o ho hc => ?_, ?_⟩
  · obtain ⟨k, hk⟩ := List.getElem?_of_mem ho
    have hkl : k < os.length := by
      rcases Nat.lt_or_ge k os.length with h' | h'
      · exact h'
      · rw [List.getElem?_eq_none h'] at hk; cases hk
    have h4 := ordered_spec h hkl
    unfold ordAt at h4
    rw [List.getD_eq_getElem?_getD, hk] at h4
    simp only [Bool.and_eq_true, Bool.not_eq_true', Option.getD_some] at h4
    have h5 := h4.1.1
    unfold idBad at h5
    simp only [Bool.or_eq_false_iff, bne_eq_false_iff_eq] at h5
    have h6 := h5.1.1.1.1
    have hk4 : o.kind = 4 := by simpa [cntB] using hc
    unfold evErr at h6
    split at h6
    · omega
    · split at h6
      · omega
      · split at h6
        · omega
        · split at h6
          · rename_i q; exact absurd h6 q
          · rename_i q
            have q : subF o = 0 := by simpa using q
            unfold subF sub0 uSt uName at q
            rw [hk4] at q
            unfold numF at h6
            rw [hk4] at h6
            refine ⟨by simpa using q, ?_⟩
            unfold wiI at h6
            unfold inB
            simp at h6 ⊢
            omega
  · rw [List.pairwise_iff_getElem]
    intro i j hi hj hij
    have := mono i j (by omega) hj
    simp [hi, hj] at this
    exact this

def evs (os : List TimedT) (x : List UInt8) : List StepT := (allF os).filter fun s => s.name == x
def restS (os : List TimedT) (x : List UInt8) : List StepT := sortF ltB ((allF os).filter fun s => ltS x s.name)
theorem ltB_iff {a b : StepT} : ltB a b = true ↔ ltN a b := by unfold ltB; rw [decide_eq_true_eq]; exact order_neg a b
theorem ltB_name {a b : StepT} (h : ltS a.name b.name = true) : ltB a b = true ∧ ltB b a = false := by
  refine ⟨ltB_iff.2 (.inl h), ?_⟩
  rw [Bool.eq_false_iff]
  intro h2
  rcases ltB_iff.1 h2 with h2 | ⟨e, _⟩
  · have := bl_asymm h; unfold ltS at h2; rw [this] at h2; cases h2
  · exact bl_ne h e.symm
theorem ltB_neg (a b c : StepT) (h1 : ltB a b = false) (h2 : ltB b c = false) : ltB a c = false := by
  rw [Bool.eq_false_iff] at *
  intro h
  exact ltN_neg (fun q => h1 (ltB_iff.2 q)) (fun q => h2 (ltB_iff.2 q)) (ltB_iff.1 h)
theorem ltB_asy (a b : StepT) (h : ltB a b = true) : ltB b a = false := by
  rw [Bool.eq_false_iff]
  intro h2
  exact ltN_irr a (ltN_trans (ltB_iff.1 h) (ltB_iff.1 h2))
theorem all_pw {os : List TimedT} (h : Good os) : (allF os).Pairwise fun a b => a.at_ ≤ b.at_ := by
  unfold allF
  rw [List.pairwise_map]
  exact (h.pw.filter _).imp fun h => h
theorem evs_sorted {os : List TimedT} (h : Good os) (x : List UInt8) : sortF ltB (evs os x) = evs os x := by
  refine sortF_id ?_
  unfold evs
  refine ((all_pw h).filter _).imp_of_mem fun {a b} ha hb hle => ?_
  have ha := (List.mem_filter.1 ha).2
  have hb := (List.mem_filter.1 hb).2
  simp only [beq_iff_eq] at ha hb
  rw [Bool.eq_false_iff]
  intro h2
  rcases ltB_iff.1 h2 with h2 | ⟨_, h2⟩
  · unfold ltS at h2; rw [ha, hb, bl_irr] at h2; cases h2
  · omega
theorem all_mem {os : List TimedT} {s : StepT} : s ∈ allF os ↔ ∃ o ∈ os, cntB o = true ∧ stepOf o = s := by
  unfold allF
  rw [List.mem_map]
  constructor
  · rintro ⟨o, ho, e⟩
    exact ⟨o, (List.mem_filter.1 ho).1, (List.mem_filter.1 ho).2, e⟩
  · rintro ⟨o, h1, h2, e⟩
    exact ⟨o, List.mem_filter.2 ⟨h1, h2⟩, e⟩
theorem all_name {os : List TimedT} (h : Good os) : ∀ s ∈ allF os, nameF s.name = 0 ∧ inB s.value = true := fun s hs => by
  obtain ⟨o, h1, h2, rfl⟩ := all_mem.1 hs
  exact h.val o h1 h2
theorem filter_congr' {α : Type} {p q : α → Bool} {l : List α} (h : ∀ x ∈ l, p x = q x) : l.filter p = l.filter q := List.filter_congr h

/-- the least name above x -/
theorem next_spec {os : List TimedT} (h : Good os) (x : List UInt8) : ∀ k, k ≤ os.length →
    (nextF os x k = [] ∧ ∀ i, i < k → cntB (os.getD i default) = true → ltS x (os.getD i default).name = false) ∨
    (nextF os x k ≠ [] ∧ ltS x (nextF os x k) = true ∧ (∃ i, i < k ∧ cntB (os.getD i default) = true ∧ (os.getD i default).name = nextF os x k) ∧ ∀ i, i < k → cntB (os.getD i default) = true → ltS x (os.getD i default).name = true → ltS (os.getD i default).name (nextF os x k) = false)
  | 0, _ => .inl ⟨rfl, fun i hi => by omega⟩
  | k + 1, hk => by
    have ih := next_spec h x k (by omega)
    obtain ⟨o, ho⟩ : ∃ o, o = os.getD k default := ⟨_, rfl⟩
    have hm : o ∈ os := by rw [ho]; exact mem_getD (by omega)
    have hst : nextF os x (k + 1) = if betB o x (nextF os x k) = true then o.name else nextF os x k := by rw [nextF, ho]
    obtain ⟨b, hb⟩ : ∃ b, b = nextF os x k := ⟨_, rfl⟩
    rw [hst]
    rw [← hb] at ih ⊢
    have hgt : gtS o.name x = ltS x o.name := by
      unfold gtS ltS
      rcases bl_cases o.name x with ⟨h1, h2, h3⟩ | ⟨h1, h2, h3⟩ | ⟨h1, h2, h3⟩
      · rw [h1, h3]; rfl
      · rw [h1, h3, h2]; simp
      · rw [h1, h3]; simp [h2]
    have hbet : betB o x b = true ↔ cntB o = true ∧ ltS x o.name = true ∧ (b = [] ∨ ltS o.name b = true) := by
      unfold betB cntB
      rw [hgt]
      simp [and_assoc]
    by_cases hq : betB o x b = true
    · rw [if_pos hq]
      obtain ⟨q1, q2, q3⟩ := hbet.1 hq
      have hne : o.name ≠ [] := name_ne (h.val o hm q1).1
      right
      refine ⟨hne, q2, ⟨k, by omega, by rw [← ho]; exact q1, by rw [← ho]⟩, fun i hi hc hx => ?_⟩
      by_cases e : i = k
      · subst e; rw [← ho]; exact bl_irr _
      · rcases ih with ⟨e0, hn⟩ | ⟨b1, b2, _, b4⟩
        · have := hn i (by omega) hc
          rw [this] at hx; cases hx
        · have h5 := b4 i (by omega) hc hx
          rcases q3 with q3 | q3
          · exact absurd q3 b1
          · rw [Bool.eq_false_iff]
            intro h6
            have := bl_trans h6 q3
            unfold ltS at h5
            rw [this] at h5; cases h5
    · rw [if_neg hq]
      have hq' : ¬ (cntB o = true ∧ ltS x o.name = true ∧ (b = [] ∨ ltS o.name b = true)) := fun q => hq (hbet.2 q)
      rcases ih with ⟨e0, hn⟩ | ⟨b1, b2, ⟨i0, i1, i2, i3⟩, b4⟩
      · refine .inl ⟨e0, fun i hi hc => ?_⟩
        by_cases e : i = k
        · subst e
          rw [← ho] at hc ⊢
          rw [Bool.eq_false_iff]
          intro hx
          exact hq' ⟨hc, hx, .inl e0⟩
        · exact hn i (by omega) hc
      · refine .inr ⟨b1, b2, ⟨i0, by omega, i2, i3⟩, fun i hi hc hx => ?_⟩
        by_cases e : i = k
        · subst e
          rw [← ho] at hc hx ⊢
          rw [Bool.eq_false_iff]
          intro h6
          exact hq' ⟨hc, hx, .inr h6⟩
        · exact b4 i (by omega) hc hx
theorem mem_idx {os : List TimedT} {o : TimedT} (h : o ∈ os) : ∃ i, i < os.length ∧ os.getD i default = o := by
  obtain ⟨k, hk⟩ := List.getElem?_of_mem h
  have hkl : k < os.length := by
    rcases Nat.lt_or_ge k os.length with h' | h'
    · exact h'
    · rw [List.getElem?_eq_none h'] at hk; cases hk
  exact ⟨k, hkl, by rw [List.getD_eq_getElem?_getD, hk]; rfl⟩
theorem next_none {os : List TimedT} (h : Good os) {x : List UInt8} (hn : nextF os x os.length = []) : (allF os).filter (fun s => ltS x s.name) = [] := by
  rw [List.filter_eq_nil_iff]
  intro s hs
  obtain ⟨o, h1, h2, rfl⟩ := all_mem.1 hs
  obtain ⟨i, i1, i2⟩ := mem_idx h1
  rcases next_spec h x os.length (Nat.le_refl _) with ⟨_, hh⟩ | ⟨hh, _⟩
  · have := hh i i1 (by rw [i2]; exact h2)
    rw [i2] at this
    show ¬ ltS x o.name = true
    rw [this]; simp
  · exact absurd hn hh
theorem rest_step {os : List TimedT} (h : Good os) {x y : List UInt8} (hy : y = nextF os x os.length) (hn : y ≠ []) : restS os x = evs os y ++ restS os y ∧ ((allF os).filter (fun s => ltS y s.name)).length < ((allF os).filter (fun s => ltS x s.name)).length := by
  rcases next_spec h x os.length (Nat.le_refl _) with ⟨e, _⟩ | ⟨_, hxy, ⟨i0, i1, i2, i3⟩, hl⟩
  · exact absurd (hy.trans e) hn
  rw [← hy] at hxy i3 hl
  have hleast : ∀ s ∈ allF os, ltS x s.name = true → ltS s.name y = false := fun s hs hx => by
    obtain ⟨o, h1, h2, rfl⟩ := all_mem.1 hs
    obtain ⟨i, j1, j2⟩ := mem_idx h1
    have := hl i j1 (by rw [j2]; exact h2) (by rw [j2]; exact hx)
    rw [j2] at this; exact this
  have e1 : ((allF os).filter fun s => ltS x s.name).filter (fun s => s.name == y) = evs os y := by
    rw [List.filter_filter]
    refine filter_congr' fun s _ => ?_
    by_cases q : s.name = y
    · rw [q, hxy]; simp
    · have : (s.name == y) = false := by simpa using q
      rw [this, Bool.false_and]
  have e2 : ((allF os).filter fun s => ltS x s.name).filter (fun s => !(s.name == y)) = (allF os).filter fun s => ltS y s.name := by
    rw [List.filter_filter]
    refine filter_congr' fun s hs => ?_
    rw [Bool.eq_iff_iff]
    simp only [Bool.and_eq_true, Bool.not_eq_true', beq_eq_false_iff_ne]
    constructor
    · rintro ⟨q1, q2⟩
      rcases bl_cases s.name y with ⟨p1, _, _⟩ | ⟨_, p2, _⟩ | ⟨_, _, p3⟩
      · have := hleast s hs q2; unfold ltS at this; rw [this] at p1; cases p1
      · exact absurd p2 q1
      · exact p3
    · intro q
      exact ⟨fun e => bl_ne q e.symm, bl_trans hxy q⟩
  refine ⟨?_, ?_⟩
  · unfold restS
    rw [sortF_two (p := fun s => s.name == y) (fun a ha b hb pa pb => ?_), e1, e2, evs_sorted h]
    refine ltB_name ?_
    simp only [beq_iff_eq, beq_eq_false_iff_ne] at pa pb
    have hb' := List.mem_filter.1 hb
    rw [pa]
    rcases bl_cases b.name y with ⟨p1, _, _⟩ | ⟨_, p2, _⟩ | ⟨_, _, p3⟩
    · have := hleast b hb'.1 hb'.2; unfold ltS at this; rw [this] at p1; cases p1
    · exact absurd p2 pb
    · exact p3
  · rw [← e2]
    have hmem : stepOf (os.getD i0 default) ∈ (allF os).filter fun s => ltS x s.name := List.mem_filter.2 ⟨all_mem.2 ⟨_, mem_getD i1, i2, rfl⟩, by show ltS x (os.getD i0 default).name = true; rw [i3]; exact hxy⟩
    have hnot : ¬ (!((stepOf (os.getD i0 default)).name == y)) = true := by
      show ¬ (!((os.getD i0 default).name == y)) = true
      rw [i3]; simp
    exact List.length_filter_lt_length_iff_exists.2 ⟨_, hmem, hnot⟩

/-! ### ties struck out, then equal values -/
def tie (s : StepT) : List StepT → Bool
  | [] => false
  | t :: _ => orderF s t == 0
def dd : List StepT → List StepT
  | [] => []
  | s :: r => if tie s r = true then dd r else s :: dd r
def app1 (out : List StepT) (s : StepT) : List StepT := if lastSame out s = true then out else out ++ [s]
def run (S : List StepT) : List StepT := (dd S).foldl app1 []
theorem outF_run (S : List StepT) : outF S S.length = run S := by
  have gen : ∀ j k, k + j = S.length → (dd (S.drop k)).foldl app1 (outF S k) = outF S S.length := by
    intro j
    induction j with
    | zero =>
      intro k hk
      have : k = S.length := by omega
      subst this
      rw [List.drop_length]; rfl
    | succ j ih =>
      intro k hk
      have h := ih (k + 1) (by omega)
      have hd : S.drop k = S.getD k default :: S.drop (k + 1) := by
        have hkl : k < S.length := by omega
        rw [List.drop_eq_getElem_cons hkl]
        simp [hkl]
      have ht : tie (S.getD k default) (S.drop (k + 1)) = (decide (k + 1 < S.length) && orderF (S.getD k default) (S.getD (k + 1) default) == 0) := by
        by_cases hn : k + 1 < S.length
        · rw [List.drop_eq_getElem_cons hn, decide_eq_true hn, Bool.true_and, tie]
          simp [hn]
        · rw [List.drop_of_length_le (by omega), decide_eq_false hn]; rfl
      rw [← h, hd, dd, ht, outF, outStep]
      split
      · rfl
      · rw [List.foldl_cons]; rfl
  exact (gen S.length 0 (by omega)).symm
theorem tie_append {s : StepT} {A B : List StepT} (h : ∀ b ∈ B, s.name ≠ b.name) : tie s (A ++ B) = tie s A := by
  cases A with
  | nil =>
    cases B with
    | nil => rfl
    | cons b B =>
      show (orderF s b == 0) = false
      have := h b List.mem_cons_self
      rw [beq_eq_false_iff_ne]
      intro e
      exact this ((order_zero s b).1 e).1
  | cons a A => rfl
theorem dd_append : ∀ {A B : List StepT}, (∀ a ∈ A, ∀ b ∈ B, a.name ≠ b.name) → dd (A ++ B) = dd A ++ dd B
  | [], B, _ => rfl
  | a :: A, B, h => by
    have ih := dd_append (A := A) (B := B) fun x hx => h x (List.mem_cons_of_mem _ hx)
    rw [List.cons_append, dd, dd, tie_append (h a List.mem_cons_self), ih]
    split
    · rfl
    · rfl
theorem dd_sub : ∀ {A : List StepT} {s : StepT}, s ∈ dd A → s ∈ A
  | [], s, h => by cases h
  | a :: A, s, h => by
    rw [dd] at h
    split at h
    · exact List.mem_cons_of_mem _ (dd_sub h)
    · rcases List.mem_cons.1 h with rfl | h
      · exact List.mem_cons_self
      · exact List.mem_cons_of_mem _ (dd_sub h)
theorem lastSame_app {out o2 : List StepT} {s : StepT} (h : ∀ o ∈ out, o.name ≠ s.name) : lastSame (out ++ o2) s = lastSame o2 s := by
  unfold lastSame
  by_cases h2 : o2 = []
  · subst h2
    rw [List.append_nil]
    have : decide (0 < ([] : List StepT).length) = false := rfl
    rw [this, Bool.false_and, Bool.false_and]
    by_cases h0 : 0 < out.length
    · have hm : out.getD (out.length - 1) default ∈ out := getD_mem' (by omega)
      have : ((out.getD (out.length - 1) default).name == s.name) = false := by simpa using h _ hm
      rw [this, Bool.and_false, Bool.false_and]
    · rw [decide_eq_false h0]; rfl
  · have hp : 0 < o2.length := List.length_pos_iff.2 h2
    have e : (out ++ o2).getD ((out ++ o2).length - 1) default = o2.getD (o2.length - 1) default := by
      rw [show (out ++ o2).length - 1 = out.length + (o2.length - 1) by rw [List.length_append]; omega, getD_app_r]
    rw [e, decide_eq_true hp, decide_eq_true (show 0 < (out ++ o2).length by rw [List.length_append]; omega)]
theorem app_fold {out : List StepT} : ∀ {B o2 : List StepT}, (∀ s ∈ B, ∀ o ∈ out, o.name ≠ s.name) → B.foldl app1 (out ++ o2) = out ++ B.foldl app1 o2
  | [], o2, _ => rfl
  | s :: B, o2, h => by
    have ih := @app_fold out B
    rw [List.foldl_cons, List.foldl_cons, app1, app1, lastSame_app (h s List.mem_cons_self)]
    split
    · exact ih fun x hx => h x (List.mem_cons_of_mem _ hx)
    · rw [List.append_assoc]
      exact ih fun x hx => h x (List.mem_cons_of_mem _ hx)
theorem app_sub {T : List StepT} {s : StepT} : ∀ {out : List StepT}, s ∈ T.foldl app1 out → s ∈ out ∨ s ∈ T := by
  induction T with
  | nil => intro out h; exact .inl h
  | cons t T ih =>
    intro out h
    rcases ih h with h | h
    · unfold app1 at h
      split at h
      · exact .inl h
      · rcases List.mem_append.1 h with h | h
        · exact .inl h
        · simp only [List.mem_cons, List.not_mem_nil, or_false] at h
          exact .inr (by rw [h]; exact List.mem_cons_self)
    · exact .inr (List.mem_cons_of_mem _ h)
theorem run_sub {S : List StepT} {s : StepT} (h : s ∈ run S) : s ∈ S := by
  rcases app_sub h with h | h
  · cases h
  · exact dd_sub h
theorem run_append {A B : List StepT} (h : ∀ a ∈ A, ∀ b ∈ B, a.name ≠ b.name) : run (A ++ B) = run A ++ run B := by
  unfold run
  rw [dd_append h, List.foldl_append]
  have := app_fold (out := (dd A).foldl app1 []) (B := dd B) (o2 := []) fun s hs o ho => by
    have h1 := run_sub (S := A) ho
    exact h o h1 s (dd_sub hs)
  rw [List.append_nil] at this
  exact this
end Ytlelaieadgkemaa
end Go.Proofs
