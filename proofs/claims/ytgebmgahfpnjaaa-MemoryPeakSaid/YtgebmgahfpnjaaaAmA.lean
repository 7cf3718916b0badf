/-
  Rules with side conditions that omega proves: tests decided, wraps taken away, elements of lists.
-/
import Derived.Test.YtgebmgahfpnjaaaAm21
set_option linter.unnecessarySimpa false
set_option linter.unusedSectionVars false
set_option linter.unusedSimpArgs false
set_option linter.unusedVariables false
namespace Go.AM
theorem a_lt_t {a b : Int} (h : a < b) : (a < b) = True := eq_true h
theorem a_lt_f {a b : Int} (h : ¬ a < b) : (a < b) = False := eq_false h
theorem a_le_t {a b : Int} (h : a ≤ b) : (a ≤ b) = True := eq_true h
theorem a_le_f {a b : Int} (h : ¬ a ≤ b) : (a ≤ b) = False := eq_false h
theorem a_nlt_t {a b : Nat} (h : a < b) : (a < b) = True := eq_true h
theorem a_nlt_f {a b : Nat} (h : ¬ a < b) : (a < b) = False := eq_false h
theorem a_nle_t {a b : Nat} (h : a ≤ b) : (a ≤ b) = True := eq_true h
theorem a_nle_f {a b : Nat} (h : ¬ a ≤ b) : (a ≤ b) = False := eq_false h
theorem a_eq_t {a b : Int} (h : a = b) : (a == b) = true := by simp [h]
theorem a_eq_f {a b : Int} (h : ¬ a = b) : (a == b) = false := by simp [h]
theorem a_ne_t {a b : Int} (h : ¬ a = b) : (a != b) = true := by simp [h]
theorem a_ne_f {a b : Int} (h : a = b) : (a != b) = false := by simp [h]
theorem a_getD {α : Type} [Inhabited α] (f : α → D) (l : List α) (i : Nat) (h : i < l.length) : (l.map f).getD i default = f (l.getD i default) := getD_map f l i h
theorem a_wrap {n : Int} (h : -9223372036854775808 ≤ n ∧ n ≤ 9223372036854775807) : IntKind.i64.wrap n = n := wrap64 h.1 h.2
theorem aRules : type_of% (And.intro @a_wrap (And.intro @a_lt_t (And.intro @a_lt_f (And.intro @a_le_t (And.intro @a_le_f (And.intro @a_nlt_t (And.intro @a_nlt_f (And.intro @a_nle_t (And.intro @a_nle_f (And.intro @a_eq_t (And.intro @a_eq_f (And.intro @a_ne_t (And.intro @a_ne_f (And.intro @a_getD (And.intro @Int.natCast_add @Int.natCast_one))))))))))))))) := And.intro @a_wrap (And.intro @a_lt_t (And.intro @a_lt_f (And.intro @a_le_t (And.intro @a_le_f (And.intro @a_nlt_t (And.intro @a_nlt_f (And.intro @a_nle_t (And.intro @a_nle_f (And.intro @a_eq_t (And.intro @a_eq_f (And.intro @a_ne_t (And.intro @a_ne_f (And.intro @a_getD (And.intro @Int.natCast_add @Int.natCast_one))))))))))))))
end Go.AM
