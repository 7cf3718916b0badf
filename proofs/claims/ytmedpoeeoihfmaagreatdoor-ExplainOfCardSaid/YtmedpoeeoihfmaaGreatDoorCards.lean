/-
  DERIVED. GIVEN WITH THE SEED: THE CARDS: each row of YtmedpoeeoihfmaaGreatDoorRows.lean that lists a variable, with what it lists TIED to the program's text (the seventh form; the later family's looks); each row that meets fmt, with fmt's text TOLD by the authors' own Lean function (tested against real Go, not proved from fmt's source: count such statements apart). THE CARD IS WHAT COUNTS. Prove the row's statement (the work); the ties are given (YtmedpoeeoihfmaaGreatDoorTie.lean); close each card by the builder's one call (the guide's Derived/Test/ToyasCard.lean, 'card_holds'). Laid BY PROGRAM, IN A SANDBOX (cutbox-door.mjs). By AI agents, Wed Nov 11 2026. No macro, syntax, notation, axiom, sorry.
-/
import Derived.Test.YtmedpoeeoihfmaaGreatDoorRows
import GoSem.ClaimSeven
namespace Go.Proofs.YtmedpoeeoihfmaaGreatDoor
namespace Rows

/-- THE TIED CARD OF 'tracebooklaw53.ExplainOf'. -/
def explainOfCard : Claim7 := { stood := { row := explainOfRow, standIns := [], harness := (true, "c994b0c3a0b4d2f9e13db280ebef235bb5ec47fc37fc83276ea06dd31061c062"), looks := false }, kinds := [], alts := [], laidByText := true, laidKinds := [.data, .data, .data], laidTests := true, laidLooks := .later }
def ExplainOfCardSaid : Prop := Claim7.holds Tryz.pinned (.plain (OpenSpec.ofChange explainOfSpec)) explainOfCard

/-- THE TIED CARD OF 'tracebooklaw53.ExplainParts'. -/
def explainPartsCard : Claim7 := { stood := { row := explainPartsRow, standIns := [], harness := (true, "c994b0c3a0b4d2f9e13db280ebef235bb5ec47fc37fc83276ea06dd31061c062"), looks := false }, kinds := [], alts := [], laidByText := true, laidKinds := [.data, .data, .data], laidTests := true, laidLooks := .later }
def ExplainPartsCardSaid : Prop := Claim7.holds Tryz.pinned (.plain (OpenSpec.ofChange explainPartsSpec)) explainPartsCard

/-- THE SECOND FORM's CARD OF 'tracebooklaw53.ExplainOf'. -/
def explainOfUptoCard : Claim7 := { stood := { row := explainOfUptoRow, standIns := [], harness := (true, "c994b0c3a0b4d2f9e13db280ebef235bb5ec47fc37fc83276ea06dd31061c062"), looks := false }, kinds := [], alts := [], laidByText := true, laidKinds := [.data, .data, .data], laidTests := true, laidLooks := .later }
def ExplainOfUptoCardSaid : Prop := Claim7.holds Tryz.pinned (.plain (OpenSpec.upto explainOfSpec)) explainOfUptoCard

/-- THE SECOND FORM's CARD OF 'tracebooklaw53.ExplainParts'. -/
def explainPartsUptoCard : Claim7 := { stood := { row := explainPartsUptoRow, standIns := [], harness := (true, "c994b0c3a0b4d2f9e13db280ebef235bb5ec47fc37fc83276ea06dd31061c062"), looks := false }, kinds := [], alts := [], laidByText := true, laidKinds := [.data, .data, .data], laidTests := true, laidLooks := .later }
def ExplainPartsUptoCardSaid : Prop := Claim7.holds Tryz.pinned (.plain (OpenSpec.upto explainPartsSpec)) explainPartsUptoCard
end Rows
end Go.Proofs.YtmedpoeeoihfmaaGreatDoor
