/- Proved: FracFieldCardSaid: for every input that can be read as data the law returns true and leaves its arguments as they were; no condition is added. -/
import Derived.Test.YtkoebmjenkajdaaDoorR02s
import Derived.Test.YtkoebmjenkajdaaDoorR02eb
set_option linter.unusedVariables false
set_option linter.unusedSimpArgs false
set_option linter.unusedSectionVars false
set_option linter.unnecessarySimpa false
set_option linter.unusedSimpArgs false
set_option linter.unusedVariables false
set_option maxRecDepth 100000
namespace Go.Proofs
open Go.AM Go.ChangeShapes Go.WideShapes Go.ChangeAt Go.RowKit
namespace YtkoebmjenkajdaaDoor
theorem fracField_main (xs : List D) (h : TypedAll Tryd.prog 5 Tryd.f10.params.toList xs) : ACalls Tryd.prog G2 10 (xs.map AV.d) [] (fun r _ => r = .d (.bool true)) := by
  rw [Tryd.params10] at h
  obtain ⟨x, _, rfl, h1, y, _, rfl, h2, z, _, rfl, h3, rfl⟩ := h
  obtain ⟨a, rfl, ha⟩ := par23 h1
  obtain ⟨b, rfl, hb⟩ := par23 h2
  obtain ⟨c, rfl, hc⟩ := par23 h3
  exact (c10 a b c ha hb hc []).mono fun r s h => h.1
theorem fracField_lifted (os : Os) (started : os.Started) (H : Type) (enc : TypeId × Value → H) :
    ReturnsInHanded {} Tryd.checked os 10 .any (fun w args => (Rows.fracFieldSpec.pre enc Tryd.prog Tryd.f10 [] false w args ∧ laidMetH Tryd.prog laid3 w) ∧ sizedMet enc Tryd.prog Tryd.f10 (OpenSpec.ofChange Rows.fracFieldSpec) false w args)
      (Rows.fracFieldSpec.post enc Tryd.prog Tryd.f10 false true false false) := by
  refine returnsInHanded_of_change_and (C := Tryd.checked) (X := fun w _ => laidMetH Tryd.prog laid3 w) (fun _ _ _ hh h => h.of_heap hh) own started (by kernel_rfl) Tryd.func10
    (ChangeSpec.witness_shaped (enc := enc) (C := Tryd.checked) (os := os) (X := fun w _ => laidMetH Tryd.prog laid3 w) false (World.doorLaid Tryd.prog 400 os) #[.agg #[.int .i64 0, .int .i64 0], .agg #[.int .i64 0, .int .i64 0], .agg #[.int .i64 0, .int .i64 0]] 8 rfl (World.shaped_of_RefB (by kernel_rfl) (by kernel_rfl)) (by kernel_rfl) (by kernel_rfl) (by kernel_rfl) (door_met os _)) ?_
  intro W base args ds gs before hval hW _ _ hL _
  exact law_contract_gl (n := 5) (tb := 4) Tryd.func10 rfl rfl (by kernel_rfl) laidOut (by kernel_rfl) (by kernel_rfl) rfl
    (fun H ds h => by
      match ds, h with
      | [d1, d2, d3], _ => rfl) fracField_main W base args ds gs before hval hW (fun I hI => gl_of_laid hL I hI)
theorem fracField_said : Rows.FracFieldSaid :=
  OpenClaim.holds_of_wide 10 Tryd.f10 rfl rfl rfl rfl rfl rfl rfl ⟨rfl, rfl, rfl, rfl, rfl⟩ rfl rfl rfl rfl rfl (by kernel_rfl) Tryd.func10 (by kernel_rfl)
    (of_decide_eq_true (by kernel_rfl)) (by unfold Func.isWrapper; first | (rw [if_pos (by decide +kernel)]; kernel_rfl) | (rw [if_neg (by decide +kernel)]; exact ⟨rfl, rfl⟩))
    (fun os started H enc _ => fracField_lifted os started H enc)
theorem fracField_card_holds : Rows.FracFieldCardSaid :=
  Claim7.holds_tied_plain_at .later [] [.data, .data, .data] true (true, "b1ffa7bd2732add75ecf13963c45e828bf90ff02a5721eca7f3da8efac986c42") false
    fracField_said (fun _ h => by cases h) (by kernel_rfl) (fun _ h => by cases h) fracField_row_tie rfl ⟨rfl, rfl⟩ (by kernel_rfl) rfl
    (fun f fn hf hfn => by
      obtain rfl : f = 10 := Option.some.inj ((show Tryd.prog.funcNamed "tracebook/tracebooklaw02.FracField" = some 10 by kernel_rfl).symm.trans hf) |>.symm
      obtain rfl : fn = Tryd.f10 := (Option.some.inj (Tryd.func10.symm.trans hfn)).symm
      exact ⟨by kernel_rfl, fun j t ht => by
        have hm : t ∈ Tryd.f10.params.toList := by simpa using Array.mem_of_getElem? ht
        have hall : (Tryd.f10.params.toList.all fun u => !Tryd.prog.wantsStandIn u) = true := by kernel_rfl
        exact (show Tryd.prog.wantsStandIn t = false by simpa using List.all_eq_true.1 hall t hm)⟩)
    (by kernel_rfl)
end YtkoebmjenkajdaaDoor
end Go.Proofs
