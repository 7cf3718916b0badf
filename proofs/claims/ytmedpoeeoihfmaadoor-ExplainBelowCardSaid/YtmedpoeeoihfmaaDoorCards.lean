/-
  DERIVED. GIVEN WITH THE SEED: THE CARDS: each row of YtmedpoeeoihfmaaDoorRows.lean that lists a variable, with what it lists TIED to the program's text (the seventh form; the later family's looks); each row that meets fmt, with fmt's text TOLD by the authors' own Lean function (tested against real Go, not proved from fmt's source: count such statements apart). THE CARD IS WHAT COUNTS. Prove the row's statement (the work); the ties are given (YtmedpoeeoihfmaaDoorTie.lean); close each card by the builder's one call (the guide's Derived/Test/ToyasCard.lean, 'card_holds'). Laid BY PROGRAM, IN A SANDBOX (cutbox-door.mjs). By AI agents, Wed Nov 11 2026. No macro, syntax, notation, axiom, sorry.
-/
import Derived.Test.YtmedpoeeoihfmaaDoorRows
import GoSem.ClaimSeven
namespace Go.Proofs.YtmedpoeeoihfmaaDoor
namespace Rows

/-- THE TIED CARD OF 'tracebooklaw53.ExplainExact'. -/
def explainExactCard : Claim7 := { stood := { row := explainExactRow, standIns := [], harness := (true, "d9e19f87efa702e92ee00bb7a7d0ae1d838b59708958586982a6b4539edf71e4"), looks := false }, kinds := [], alts := [], laidByText := true, laidKinds := [.data, .data, .data], laidTests := true, laidLooks := .later }
def ExplainExactCardSaid : Prop := Claim7.holds Tryd.pinned (.plain (OpenSpec.ofChange explainExactSpec)) explainExactCard

/-- THE TIED CARD OF 'tracebooklaw53.ExplainSelf'. -/
def explainSelfCard : Claim7 := { stood := { row := explainSelfRow, standIns := [], harness := (true, "d9e19f87efa702e92ee00bb7a7d0ae1d838b59708958586982a6b4539edf71e4"), looks := false }, kinds := [], alts := [], laidByText := true, laidKinds := [.data, .data, .data], laidTests := true, laidLooks := .later }
def ExplainSelfCardSaid : Prop := Claim7.holds Tryd.pinned (.plain (OpenSpec.ofChange explainSelfSpec)) explainSelfCard

/-- THE TIED CARD OF 'tracebooklaw53.ExplainBelow'. -/
def explainBelowCard : Claim7 := { stood := { row := explainBelowRow, standIns := [], harness := (true, "d9e19f87efa702e92ee00bb7a7d0ae1d838b59708958586982a6b4539edf71e4"), looks := false }, kinds := [], alts := [], laidByText := true, laidKinds := [.data, .data, .data], laidTests := true, laidLooks := .later }
def ExplainBelowCardSaid : Prop := Claim7.holds Tryd.pinned (.plain (OpenSpec.ofChange explainBelowSpec)) explainBelowCard

/-- THE SECOND FORM's CARD OF 'tracebooklaw53.ExplainExact'. -/
def explainExactUptoCard : Claim7 := { stood := { row := explainExactUptoRow, standIns := [], harness := (true, "d9e19f87efa702e92ee00bb7a7d0ae1d838b59708958586982a6b4539edf71e4"), looks := false }, kinds := [], alts := [], laidByText := true, laidKinds := [.data, .data, .data], laidTests := true, laidLooks := .later }
def ExplainExactUptoCardSaid : Prop := Claim7.holds Tryd.pinned (.plain (OpenSpec.upto explainExactSpec)) explainExactUptoCard

/-- THE SECOND FORM's CARD OF 'tracebooklaw53.ExplainSelf'. -/
def explainSelfUptoCard : Claim7 := { stood := { row := explainSelfUptoRow, standIns := [], harness := (true, "d9e19f87efa702e92ee00bb7a7d0ae1d838b59708958586982a6b4539edf71e4"), looks := false }, kinds := [], alts := [], laidByText := true, laidKinds := [.data, .data, .data], laidTests := true, laidLooks := .later }
def ExplainSelfUptoCardSaid : Prop := Claim7.holds Tryd.pinned (.plain (OpenSpec.upto explainSelfSpec)) explainSelfUptoCard

/-- THE SECOND FORM's CARD OF 'tracebooklaw53.ExplainBelow'. -/
def explainBelowUptoCard : Claim7 := { stood := { row := explainBelowUptoRow, standIns := [], harness := (true, "d9e19f87efa702e92ee00bb7a7d0ae1d838b59708958586982a6b4539edf71e4"), looks := false }, kinds := [], alts := [], laidByText := true, laidKinds := [.data, .data, .data], laidTests := true, laidLooks := .later }
def ExplainBelowUptoCardSaid : Prop := Claim7.holds Tryd.pinned (.plain (OpenSpec.upto explainBelowSpec)) explainBelowUptoCard
end Rows
end Go.Proofs.YtmedpoeeoihfmaaDoor
