/-
  The operations run, eighth part: literals, make, min and max, conversions of numbers.
-/
import Derived.Test.YtgebmgahfpnjaaaAm10
import Derived.Laws.Tables
import Derived.Great.BuildSlice
import Derived.Laws.MakeOwn
set_option linter.unnecessarySimpa false
set_option linter.unusedSectionVars false
set_option linter.unusedSimpArgs false
set_option linter.unusedVariables false
namespace Go.AM

variable {P : Program} {w : World} {I : Im} {μ : Pos} {σ : Sto}

theorem fold_set_list (off : Nat) : ∀ (vs : List Value) (k : Nat) (c : Array Value), off + k + vs.length ≤ c.size →
    ((vs.zipIdx k).foldl (fun (cs : Array Value) p => cs.setIfInBounds (off + p.2) p.1) c).size = c.size ∧
    ∀ q, ((vs.zipIdx k).foldl (fun (cs : Array Value) p => cs.setIfInBounds (off + p.2) p.1) c)[q]? = if off + k ≤ q ∧ q < off + k + vs.length then vs[q - (off + k)]? else c[q]?
  | [], k, c, _ => ⟨rfl, fun q => by simp only [List.zipIdx_nil, List.foldl_nil, List.length_nil, Nat.add_zero]; rw [if_neg (by omega)]⟩
  | v :: vs, k, c, h => by
    simp only [List.length_cons] at h
    have ih := fold_set_list off vs (k + 1) (c.setIfInBounds (off + k) v) (by simp; omega)
    simp only [List.zipIdx_cons, List.foldl_cons]
    refine ⟨by rw [ih.1]; simp, fun q => ?_⟩
    rw [ih.2 q]
    simp only [List.length_cons]
    by_cases h1 : q = off + k
    · subst h1
      rw [if_neg (by omega), if_pos (by omega), Array.getElem?_setIfInBounds_self_of_lt (by omega), Nat.sub_self]
      rfl
    · by_cases h2 : off + (k + 1) ≤ q ∧ q < off + (k + 1) + vs.length
      · rw [if_pos h2, if_pos (by omega)]
        have : q - (off + k) = (q - (off + (k + 1))) + 1 := by omega
        rw [this]; rfl
      · rw [if_neg h2, if_neg (by omega), Array.getElem?_setIfInBounds_ne (by omega)]

theorem fold_set (off : Nat) (cs : Array Value) (vs : List Value) (hv : cs = vs.toArray) (c : Array Value) (h : off + vs.length ≤ c.size) :
    (cs.zipIdx.foldl (fun cs (x : Value × Nat) => cs.setIfInBounds (off + x.2) x.1) c).size = c.size ∧
    ∀ q, (cs.zipIdx.foldl (fun cs (x : Value × Nat) => cs.setIfInBounds (off + x.2) x.1) c)[q]? = if off ≤ q ∧ q < off + vs.length then vs[q - off]? else c[q]? := by
  subst hv
  have e : ((vs.toArray).zipIdx.foldl (fun cs (x : Value × Nat) => cs.setIfInBounds (off + x.2) x.1) c) = (vs.zipIdx 0).foldl (fun (cs : Array Value) p => cs.setIfInBounds (off + p.2) p.1) c := by
    rw [← Array.foldl_toList]
    simp
  rw [e]
  have := fold_set_list off vs 0 c (by simpa using h)
  simpa using this

def setCells (cs : List AV) (off : Nat) (v : AV) : Nat → List AV
  | 0 => cs
  | n + 1 => (setCells cs off v n).set (off + n) (v.cellAt n)
theorem setCells_length (cs : List AV) (off : Nat) (v : AV) (n : Nat) : (setCells cs off v n).length = cs.length := by
  induction n with
  | zero => rfl
  | succ n ih => simp [setCells, ih]
theorem setCells_get (cs : List AV) (off : Nat) (v : AV) (n q : Nat) (h : off + n ≤ cs.length) : (setCells cs off v n)[q]? = if off ≤ q ∧ q < off + n then some (v.cellAt (q - off)) else cs[q]? := by
  induction n with
  | zero => rw [if_neg (by omega)]; rfl
  | succ n ih =>
    simp only [setCells]
    by_cases e : q = off + n
    · subst e
      rw [if_pos (by omega), List.getElem?_set_self (by rw [setCells_length]; omega)]
      congr 2; omega
    · rw [List.getElem?_set_ne (by omega), ih (by omega)]
      by_cases h2 : off ≤ q ∧ q < off + n
      · rw [if_pos h2, if_pos (by omega)]
      · rw [if_neg h2, if_neg (by omega)]

def fillA (pl : List (Nat × Nat)) : List AV → List (Nat × AV) → List AV
  | cs, [] => cs
  | cs, (i, v) :: rest => match pl[i]? with
    | some (off, size) => fillA pl (setCells cs off v size) rest
    | none => fillA pl cs rest
def fillOk (pl : List (Nat × Nat)) (N : Nat) : List (Nat × AV) → Prop
  | [] => True
  | (i, v) :: rest => (match pl[i]? with
    | some (off, size) => v.ncells = size ∧ off + size ≤ N ∧ v.storable = true
    | none => False) ∧ fillOk pl N rest

def cellsAre (w : World) (I : Im) (μ : Pos) (σ : Sto) (c : Array Value) (l : List AV) : Prop :=
  c.size = l.length ∧ (∀ x ∈ l, x.one = true) ∧ ∀ (j : Nat) (u : Value) (x : AV), c[j]? = some u → l[j]? = some x → RepV w I μ σ u x

theorem fill_rel {pl : List (Nat × Nat)} {place : Nat → Option (Nat × Nat)} : ∀ {parts : List (Nat × AV)} {vals : List (Nat × Value)} {c : Array Value} {l : List AV},
    parts.map Prod.fst = vals.map Prod.fst → (∀ i ∈ parts.map Prod.fst, ∀ p, pl[i]? = some p → place i = some p) → (∀ (k : Nat) (p : Nat × AV) (q : Nat × Value), parts[k]? = some p → vals[k]? = some q → RepV w I μ σ q.2 p.2) →
    cellsAre w I μ σ c l → fillOk pl l.length parts → ∃ c', Instr.fill place c vals = some c' ∧ cellsAre w I μ σ c' (fillA pl l parts)
  | [], vals, c, l, hf, _, _, hc, _ => by
    cases vals with
    | nil => exact ⟨c, rfl, hc⟩
    | cons _ _ => simp at hf
  | (i, v) :: parts, vals, c, l, hf, hp, hr, hc, ho => by
    cases vals with
    | nil => simp at hf
    | cons q vals =>
      obtain ⟨i', u⟩ := q
      simp only [List.map_cons, List.cons.injEq] at hf
      obtain ⟨rfl, hf⟩ := hf
      obtain ⟨ho1, ho2⟩ := ho
      cases hpl : pl[i]? with
      | none => rw [hpl] at ho1; exact ho1.elim
      | some os =>
        obtain ⟨off, size⟩ := os
        rw [hpl] at ho1
        obtain ⟨p1, p2, p3⟩ := ho1
        have hpi := hp i (by simp) _ hpl
        have hv : RepV w I μ σ u v := hr 0 (i, v) (i, u) rfl rfl
        obtain ⟨vs, hc1, hc2, hc3⟩ := cells_rep hv p3
        rw [p1] at hc2
        have hsz : u.cells.size = size := by rw [hc1]; simpa using hc2
        obtain ⟨f1, f2⟩ := fold_set off u.cells vs hc1 c (by rw [hc.1]; omega)
        have hc' : cellsAre w I μ σ (u.cells.zipIdx.foldl (fun cs (x : Value × Nat) => cs.setIfInBounds (off + x.2) x.1) c) (setCells l off v size) := by
          refine ⟨by rw [f1, setCells_length]; exact hc.1, fun x hx => ?_, fun j u' x hu hx => ?_⟩
          · obtain ⟨j, hj⟩ := List.getElem?_of_mem hx
            rw [setCells_get _ _ _ _ _ p2] at hj
            split at hj
            · rename_i hin
              simp only [Option.some.injEq] at hj
              subst hj
              have hlt : j - off < vs.length := by omega
              exact (hc3 _ _ (List.getElem?_eq_getElem hlt)).2.1
            · exact hc.2.1 x (List.mem_of_getElem? hj)
          · rw [f2, hc2] at hu
            rw [setCells_get _ _ _ _ _ p2] at hx
            split at hx
            · rename_i hin
              rw [if_pos hin] at hu
              simp only [Option.some.injEq] at hx
              subst hx
              exact (hc3 _ _ hu).1
            · rename_i hin
              rw [if_neg hin] at hu
              exact hc.2.2 j u' x hu hx
        obtain ⟨c', g1, g2⟩ := fill_rel (parts := parts) (vals := vals) hf (fun i hi p hpi => hp i (by simp only [List.map_cons, List.mem_cons]; exact .inr hi) p hpi) (fun k p q hk hq => hr (k + 1) p q hk hq) hc' (by rw [setCells_length]; exact ho2)
        refine ⟨c', ?_, by simp only [fillA, hpl]; exact g2⟩
        simp only [Instr.fill, hpi, hsz]
        rw [if_neg]
        · exact g1
        · simp only [ne_eq, not_true_eq_false, decide_false, Bool.false_or, decide_eq_true_eq]
          rw [hc.1]; omega

def tplaces (P : Program) (t : TypeId) : Option (List (Nat × Nat)) :=
  match P.underlying t with
  | some (.array n e) => (P.info? e).map fun ie => (List.range n).map fun i => (i * ie.size, ie.size)
  | some (.struct fields) => fields.toList.mapM (fun f => (P.info? f.type).map fun i => (f.offset, i.size))
  | _ => none
def tzeroA (P : Program) (t : TypeId) : Option (List AV) :=
  match tzero P t with
  | some z => if (z.cells.toList.map const1).all AV.one then some (z.cells.toList.map const1) else none
  | none => none

theorem cellsAre_zero {t : TypeId} {l : List AV} (h : tzeroA P t = some l) : ∃ z, tzero P t = some z ∧ cellsAre w I μ σ z.cells l := by
  unfold tzeroA at h
  split at h
  · rename_i z hz
    split at h
    · rename_i hall
      simp only [Option.some.injEq] at h
      subst h
      refine ⟨z, by assumption, by simp, fun x hx => List.all_eq_true.1 hall x hx, fun j u x hu hx => ?_⟩
      rw [List.getElem?_map] at hx
      have : z.cells.toList[j]? = some u := by simpa using hu
      rw [this] at hx
      simp at hx
      subst hx
      exact const1_rep u
    · cases h
  · cases h

theorem build_goes {t : TypeId} {pl : List (Nat × Nat)} {zc : List AV} (hpl : tplaces P t = some pl) (hz : tzeroA P t = some zc) {parts : List (Nat × AV)} {vals : Array (Nat × Value)} (hf : parts.map Prod.fst = vals.toList.map Prod.fst)
    (hr : ∀ (k : Nat) (p : Nat × AV) (q : Nat × Value), parts[k]? = some p → vals.toList[k]? = some q → RepV w I μ σ q.2 p.2) (ho : fillOk pl zc.length parts) :
    ∃ z, (Instr.build t vals).run P w = .ok z w ∧ RepV w I μ σ z (mkAgg (fillA pl zc parts)) := by
  obtain ⟨z, hz1, hz2⟩ := cellsAre_zero (w := w) (I := I) (μ := μ) (σ := σ) hz
  have fin : ∀ place : Nat → Option (Nat × Nat), (∀ i p, pl[i]? = some p → place i = some p) → (∀ c, Instr.fill place z.cells vals.toList = some c → P.built t vals.toList = some c) →
      ∃ z, (Instr.build t vals).run P w = .ok z w ∧ RepV w I μ σ z (mkAgg (fillA pl zc parts)) := by
    intro place h1 h2
    obtain ⟨c', g1, g2, g3, g4⟩ := fill_rel hf (fun i _ p hp => h1 i p hp) hr hz2 ho
    refine ⟨.agg c', run_build w t vals c' (h2 c' g1), ?_⟩
    have := mkAgg_rep (w := w) (I := I) (μ := μ) (σ := σ) (vs := c'.toList) (cs := fillA pl zc parts) (by simpa using g2) g3 (fun i v x hv hx => g4 i v x (by simpa using hv) hx)
    simpa using this
  unfold tzero at hz1
  unfold tplaces at hpl
  cases hi : P.info? t with
  | none => rw [hi] at hz1; cases hz1
  | some it =>
    rw [hi] at hz1
    have hz1' : it.zero = some z := hz1
    split at hpl
    · rename_i n e hu
      cases hie : P.info? e with
      | none => rw [hie] at hpl; cases hpl
      | some ie =>
        rw [hie] at hpl
        simp only [Option.map_some, Option.some.injEq] at hpl
        refine fin (fun i => some (i * ie.size, ie.size)) (fun i p hp => ?_) fun c hc => ?_
        · subst hpl
          rw [List.getElem?_map] at hp
          cases hri : (List.range n)[i]? with
          | none => rw [hri] at hp; cases hp
          | some k =>
            rw [hri] at hp
            simp only [Option.map_some, Option.some.injEq] at hp
            have := List.getElem?_eq_some_iff.1 hri
            obtain ⟨_, hk⟩ := this
            simp at hk
            subst hk; rw [← hp]
        · unfold Program.built; simp only [hi, hu, hz1', hie]; exact hc
    · rename_i fields hu
      refine fin (pl.toArray[·]?) (fun i p hp => by simpa using hp) fun c hc => ?_
      unfold Program.built; simp only [hi, hu, hz1', hpl]; exact hc
    · cases hpl

end Go.AM
