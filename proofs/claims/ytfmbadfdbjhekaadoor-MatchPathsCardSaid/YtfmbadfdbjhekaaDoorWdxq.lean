/- A part of the proof: contracts of functions of this seat, and lemmas. No condition beyond those stated. -/
import Derived.Test.YtfmbadfdbjhekaaDoorWdxp
set_option linter.unusedVariables false
set_option linter.unusedSimpArgs false
set_option linter.unusedSectionVars false
set_option linter.unnecessarySimpa false
namespace Go.Proofs
open Go.AM
namespace YtfmbadfdbjhekaaDoor
theorem sorted_ext : ∀ {a b : List Nat}, a.Pairwise (· < ·) → b.Pairwise (· < ·) → (∀ x, x ∈ a ↔ x ∈ b) → a = b
 | [], [], _, _, _ => rfl
 | [], y :: b, _, _, h => by have := (h y).2 List.mem_cons_self; cases this
 | x :: a, [], _, _, h => by have := (h x).1 List.mem_cons_self; cases this
 | x :: a, y :: b, ha, hb, h => by
  have ha' := List.pairwise_cons.1 ha
  have hb' := List.pairwise_cons.1 hb
  have e : x = y := by
   have h1 := (h x).1 List.mem_cons_self
   have h2 := (h y).2 List.mem_cons_self
   rcases List.mem_cons.1 h1 with h1 | h1
   ·exact h1
   rcases List.mem_cons.1 h2 with h2 | h2
   ·exact h2.symm
   have g1 := ha'.1 y h2
   have g2 := hb'.1 x h1
   omega
  subst e
  congr 1
  refine sorted_ext ha'.2 hb'.2 fun z => ⟨fun hz => ?_, fun hz => ?_⟩
  ·rcases List.mem_cons.1 ((h z).1 (List.mem_cons_of_mem _ hz)) with h1 | h1
   ·subst h1; have := ha'.1 z hz; omega
   ·exact h1
  ·rcases List.mem_cons.1 ((h z).2 (List.mem_cons_of_mem _ hz)) with h1 | h1
   ·subst h1; have := hb'.1 z hz; omega
   ·exact h1
def kids (l : List NodeT) (i : Int) : List Nat := (List.range l.length).filter fun k => par l k == i
theorem mem_kids {l : List NodeT} {i : Int} {k : Nat} : k ∈ kids l i ↔ k < l.length ∧ par l k = i := by
 simp [kids]
theorem kids_sorted (l : List NodeT) (i : Int) : (kids l i).Pairwise (· < ·) := List.pairwise_lt_range.filter _
def belowL (l : List NodeT) (i : Nat) : List Nat := (List.range l.length).filter fun k => decide (i < k) && upW l i k
theorem mem_below {l : List NodeT} {i k : Nat} : k ∈ belowL l i ↔ k < l.length ∧ i < k ∧ upW l i k = true := by
 simp [belowL]
theorem below_sorted (l : List NodeT) (i : Nat) : (belowL l i).Pairwise (· < ·) := List.pairwise_lt_range.filter _
def depW (l : List NodeT) (i : Nat) : Nat → Nat → Nat
 | 0, _ => 0
 | f + 1, k => if k = i then 0 else 1 + depW l i f (par l k).toNat
theorem child_above {l : List NodeT} (h : TreeUp l l.length) {i : Nat} : ∀ (m j : Nat), j ≤ m → j < l.length → i < j → upW l i j = true → ∃ k, k ∈ kids l i ∧ upW l k j = true := by
 intro m
 induction m with
 | zero => intro j h1 _ h2; omega
 | succ m ih =>
  intro j hm hj hij hu
  rw [upW_step h hj (by omega)] at hu
  by_cases e : par l j = i
  ·exact ⟨j, mem_kids.2 ⟨hj, e⟩, upW_self⟩
  ·have h1 := upW_ge hu
   obtain ⟨h2, h3⟩ := tree_par h hj
   obtain ⟨p, hp⟩ : ∃ p : Nat, par l j = p := ⟨(par l j).toNat, by omega⟩
   rw [hp] at hu e h1 h3
   obtain ⟨k, hk1, hk2⟩ := ih p (by omega) (by omega) (by omega) hu
   refine ⟨k, hk1, ?_⟩
   have := upW_ge hk2
   rw [upW_step h hj (by omega), hp]
   exact hk2
theorem up_trans {l : List NodeT} (h : TreeUp l l.length) {i k : Nat} (hik : upW l i k = true) : ∀ (m j : Nat), j ≤ m → j < l.length → upW l k j = true → upW l i j = true := by
 intro m
 induction m with
 | zero =>
  intro j h1 h2 h3
  have : j = 0 := by omega
  subst this
  have := upW_ge h3
  have : k = 0 := by omega
  subst this
  exact hik
 | succ m ih =>
  intro j h1 h2 h3
  by_cases e : (j : Int) = k
  ·rw [e]; exact hik
  ·rw [upW_step h h2 e] at h3
   obtain ⟨t1, t2⟩ := tree_par h h2
   have g := upW_ge h3
   obtain ⟨p, hp⟩ : ∃ p : Nat, par l j = p := ⟨(par l j).toNat, by omega⟩
   rw [hp] at h3 g t2
   have := ih p (by omega) (by omega) h3
   have g2 := upW_ge hik
   rw [upW_step h h2 (by omega), hp]
   exact this
theorem below_kids {l : List NodeT} (h : TreeUp l l.length) {i : Nat} (hi : i < l.length) : belowL l i = (kids l i).flatMap fun k => k :: belowL l k := by
 have hkid : ∀ k, k ∈ kids l i → i < k ∧ upW l i k = true := fun k hk => by
  obtain ⟨h1, h2⟩ := mem_kids.1 hk
  obtain ⟨t1, t2⟩ := tree_par h h1
  refine ⟨by omega, ?_⟩
  rw [upW_step h h1 (by omega), h2]; exact upW_self
 refine sorted_ext (below_sorted l i) ?_ fun j => ⟨fun hj => ?_, fun hj => ?_⟩
 ·rw [List.pairwise_flatMap]
  refine ⟨fun k hk => ?_, ?_⟩
  ·rw [List.pairwise_cons]
   exact ⟨fun x hx => (mem_below.1 hx).2.1, below_sorted l k⟩
  ·refine List.Pairwise.imp_of_mem ?_ (kids_sorted l i)
   intro a b ha hb hab x hx y hy
   have hb1 := mem_kids.1 hb
   have hx1 : x < b := by
    rcases List.mem_cons.1 hx with rfl | hx
    ·exact hab
    ·obtain ⟨g1, g2, g3⟩ := mem_below.1 hx
     rcases Nat.lt_or_ge x b with g | g
     ·exact g
     ·exfalso
      obtain ⟨d, rfl⟩ : ∃ d, x = b + d := ⟨x - b, by omega⟩
      have h1 := up_between h (i := a) d (j := b) (by omega) g1 g3
      rw [upW_step h hb1.1 (by omega), hb1.2] at h1
      have h2 := upW_ge h1
      have h3 := (hkid a ha).1
      omega
   rcases List.mem_cons.1 hy with rfl | hy
   ·exact hx1
   ·have := (mem_below.1 hy).2.1; omega
 ·obtain ⟨h1, h2, h3⟩ := mem_below.1 hj
  obtain ⟨k, hk1, hk2⟩ := child_above h j j (Nat.le_refl _) h1 h2 h3
  refine List.mem_flatMap.2 ⟨k, hk1, ?_⟩
  by_cases e : j = k
  ·rw [e]; exact List.mem_cons_self
  ·have := upW_ge hk2
   exact List.mem_cons_of_mem _ (mem_below.2 ⟨h1, by omega, hk2⟩)
 ·obtain ⟨k, hk1, hk2⟩ := List.mem_flatMap.1 hj
  obtain ⟨g1, g2⟩ := hkid k hk1
  rcases List.mem_cons.1 hk2 with rfl | hk2
  ·exact mem_below.2 ⟨(mem_kids.1 hk1).1, g1, g2⟩
  ·obtain ⟨h1, h2, h3⟩ := mem_below.1 hk2
   exact mem_below.2 ⟨h1, by omega, up_trans h g2 j j (Nat.le_refl _) h1 h3⟩
theorem dep_child {l : List NodeT} (h : TreeUp l l.length) {i k : Nat} (hk : par l k = i) : ∀ (f j : Nat), j < l.length → j ≤ f → upW l k j = true → depW l i (f + 1) j = depW l k f j + 1 := by
 intro f
 induction f with
 | zero =>
  intro j h1 h2 h3
  have : j = 0 := by omega
  subst this
  have := upW_ge h3
  have : k = 0 := by omega
  subst this
  have := (tree_par h h1).2
  omega
 | succ f ih =>
  intro j h1 h2 h3
  have hkj := upW_ge h3
  obtain ⟨t1, t2⟩ := tree_par h h1
  have hik : (i : Int) < k := by
   have := (tree_par h (show k < l.length by omega)).2
   omega
  rw [depW, if_neg (by omega)]
  by_cases e : j = k
  ·subst e
   have z1 : depW l i (f + 1) i = 0 := by rw [depW, if_pos rfl]
   have z2 : depW l j (f + 1) j = 0 := by rw [depW, if_pos rfl]
   rw [hk, show ((i : Int)).toNat = i by omega, z1, z2]
  ·rw [upW_step h h1 (by omega)] at h3
   have g := upW_ge h3
   obtain ⟨p, hp⟩ : ∃ p : Nat, par l j = p := ⟨(par l j).toNat, by omega⟩
   rw [hp] at h3 g t2 ⊢
   have hpn : ((p : Int)).toNat = p := by omega
   have := ih p (by omega) (by omega) h3
   rw [hpn, this, depW, if_neg e, hp, hpn]
   omega
theorem dep_fuel {l : List NodeT} (h : TreeUp l l.length) {i : Nat} : ∀ (m j f g : Nat), j ≤ m → j < l.length → upW l i j = true → j < f + i → j < g + i → depW l i f j = depW l i g j := by
 intro m
 induction m with
 | zero =>
  intro j f g hm hj hu hf hg
  have := upW_ge hu
  have : i = j := by omega
  subst this
  obtain ⟨f, rfl⟩ : ∃ f', f = f' + 1 := ⟨f - 1, by omega⟩
  obtain ⟨g, rfl⟩ : ∃ g', g = g' + 1 := ⟨g - 1, by omega⟩
  rw [depW, if_pos rfl, depW, if_pos rfl]
 | succ m ih =>
  intro j f g hm hj hu hf hg
  have hle := upW_ge hu
  obtain ⟨f, rfl⟩ : ∃ f', f = f' + 1 := ⟨f - 1, by omega⟩
  obtain ⟨g, rfl⟩ : ∃ g', g = g' + 1 := ⟨g - 1, by omega⟩
  by_cases e : j = i
  ·rw [depW, if_pos e, depW, if_pos e]
  ·rw [depW, if_neg e, depW, if_neg e]
   rw [upW_step h hj (by omega)] at hu
   obtain ⟨t1, t2⟩ := tree_par h hj
   have g1 := upW_ge hu
   obtain ⟨p, hp⟩ : ∃ p : Nat, par l j = p := ⟨(par l j).toNat, by omega⟩
   rw [hp] at hu g1 t2 ⊢
   rw [show ((p : Int)).toNat = p by omega, ih p f g (by omega) (by omega) hu (by omega) (by omega)]
theorem flatMap_congr' {α β : Type} {l : List α} {f g : α → List β} (h : ∀ x ∈ l, f x = g x) : l.flatMap f = l.flatMap g := by
 induction l with
 | nil => rfl
 | cons x l ih => rw [List.flatMap_cons, List.flatMap_cons, h x List.mem_cons_self, ih fun y hy => h y (List.mem_cons_of_mem _ hy)]
def shapeP (l : List NodeT) : Nat → Nat → Nat → List (Nat × Nat)
 | 0, _, _ => []
 | f + 1, i, d => (kids l i).flatMap fun k => (d, k) :: shapeP l f k (d + 1)
theorem shapeP_below {l : List NodeT} (h : TreeUp l l.length) : ∀ (f i d : Nat), i < l.length → l.length ≤ f + i → shapeP l f i d = (belowL l i).map fun k => (d + depW l i l.length k - 1, k) := by
 intro f
 induction f with
 | zero => intro i d h1 h2; omega
 | succ f ih =>
  intro i d hi hf
  rw [shapeP, below_kids h hi, List.map_flatMap]
  refine flatMap_congr' fun k hk => ?_
  obtain ⟨h1, h2⟩ := mem_kids.1 hk
  obtain ⟨t1, t2⟩ := tree_par h h1
  rw [ih k (d + 1) h1 (by omega), List.map_cons]
  obtain ⟨n, hn⟩ : ∃ n, l.length = n + 1 := ⟨l.length - 1, by omega⟩
  have hself : depW l k n k = 0 := by
   cases n with
   | zero => omega
   | succ n => rw [depW, if_pos rfl]
  congr 1
  ·rw [hn, dep_child h h2 n k h1 (by omega) upW_self, hself]; rfl
  ·refine List.map_congr_left fun j hj => ?_
   obtain ⟨g1, g2, g3⟩ := mem_below.1 hj
   rw [hn, dep_child h h2 n j g1 (by omega) g3]
   congr 1
   have e : depW l k (n + 1) j = depW l k n j := dep_fuel h j j _ _ (Nat.le_refl _) g1 g3 (by omega) (by omega)
   rw [e]; omega
end YtfmbadfdbjhekaaDoor
end Go.Proofs
