/- A part of the proof: contracts of functions of this seat, and lemmas. No condition beyond those stated. -/
import Derived.Test.YtfmbadfdbjhekaaDoorWdng
set_option linter.unusedVariables false
set_option linter.unusedSimpArgs false
set_option linter.unusedSectionVars false
set_option linter.unnecessarySimpa false
set_option maxRecDepth 100000
namespace Go.Proofs
open Go.AM
namespace YtfmbadfdbjhekaaDoor
variable {Gl : Globs}
theorem find_step {α : Type} [Inhabited α] (P : α → Bool) (y : List α) {j : Nat} (h : j < y.length) : (y.take (j + 1)).find? P = ((y.take j).find? P).or (if P (y.getD j default) = true then some (y.getD j default) else none) := by
 rw [take_step y j h, List.find?_append]
 congr 1
 by_cases e : P (y.getD j default) = true
 ·rw [if_pos e, List.find?_cons_of_pos e]
 ·rw [if_neg e, List.find?_cons_of_neg e, List.find?_nil]
theorem sz_ph1 {a b : List NodeT} {y : List Nat} : ∀ (x : List Nat) {s : Al}, Sz a b s → Sz a b (ph1 a b y x s)
 | [], _, h => h
 | p :: x, _, h => sz_ph1 x (h.op p _)
theorem sz_ph2 {a b : List NodeT} {y : List Nat} : ∀ (x : List Nat) {s : Al}, Sz a b s → Sz a b (ph2 a b y x s)
 | [], _, h => h
 | p :: x, _, h => sz_ph2 x (h.op p _)
theorem sz_foldl {a b : List NodeT} {g : Al → Nat → Al} (hg : ∀ s p, Sz a b s → Sz a b (g s p)) : ∀ (x : List Nat) {s : Al}, Sz a b s → Sz a b (x.foldl g s)
 | [], _, h => h
 | p :: x, _, h => sz_foldl hg x (hg _ p h)
theorem sz_align {a b : List NodeT} : ∀ (f : Nat) (i k : Int) {s : Al}, Sz a b s → Sz a b (alignF a b f i k s)
 | 0, _, _, _, h => h
 | f + 1, i, k, s, h => by
  rw [alignF]
  refine sz_foldl (fun s p hs => ?_) _ (sz_ph2 _ (sz_ph1 _ h))
  show Sz a b (if 0 ≤ s.b p then alignF a b f p (s.b p) s else s)
  split
  ·exact sz_align f _ _ hs
  ·exact hs
theorem ph1_step (a b : List NodeT) (y x : List Nat) (s : Al) {j : Nat} (h : j < x.length) : ph1 a b y (x.take (j + 1)) s = opS (ph1 a b y (x.take j) s) (x.getD j default) (c1 a b y (x.getD j default)) := by
 rw [take_step x j h, ph1, List.foldl_append]; rfl
theorem ph2_step (a b : List NodeT) (y x : List Nat) (s : Al) {j : Nat} (h : j < x.length) : ph2 a b y (x.take (j + 1)) s = opS (ph2 a b y (x.take j) s) (x.getD j default) (c2 a b y (ph2 a b y (x.take j) s) (x.getD j default)) := by
 rw [take_step x j h, ph2, List.foldl_append]; rfl
theorem foldl_step {β : Type} (g : β → Nat → β) (x : List Nat) (s : β) {j : Nat} (h : j < x.length) : (x.take (j + 1)).foldl g s = g ((x.take j).foldl g s) (x.getD j default) := by
 rw [take_step x j h, List.foldl_append]; rfl
theorem find_of_take {α : Type} (P : α → Bool) (y : List α) (n : Nat) {r : α} (h : (y.take n).find? P = some r) : y.find? P = some r := by
 conv => lhs; rw [← List.take_append_drop n y]
 rw [List.find?_append, h]; rfl
end YtfmbadfdbjhekaaDoor
end Go.Proofs
