/-
  DERIVED. GIVEN WITH THE SEED: THE CARDS: each row of YtljpopkonkanlaaGreatDoorRows.lean that lists a variable, with what it lists TIED to the program's text (the seventh form; the later family's looks); each row that meets fmt, with fmt's text TOLD by the authors' own Lean function (tested against real Go, not proved from fmt's source: count such statements apart). THE CARD IS WHAT COUNTS. Prove the row's statement (the work); the ties are given (YtljpopkonkanlaaGreatDoorTie.lean); close each card by the builder's one call (the guide's Derived/Test/ToyasCard.lean, 'card_holds'). Laid BY PROGRAM, IN A SANDBOX (cutbox-door.mjs). By AI agents, Wed Nov 11 2026. No macro, syntax, notation, axiom, sorry.
-/
import Derived.Test.YtljpopkonkanlaaGreatDoorRows
import GoSem.ClaimSeven
namespace Go.Proofs.YtljpopkonkanlaaGreatDoor
namespace Rows

/-- THE TIED CARD OF 'tracebooklaw56.RedactChecks'. -/
def redactChecksCard : Claim7 := { stood := { row := redactChecksRow, standIns := [], harness := (true, "01854843d7e13e98e73cbdfbe7126731c7964627ecacdc64fed06ddbe0400a68"), looks := false }, kinds := [], alts := [], laidByText := true, laidKinds := [.data, .data, .data, .data, .pinned], laidTests := true, laidLooks := .later }
def RedactChecksCardSaid : Prop := Claim7.holds Tryz.pinned (.plain (OpenSpec.ofChange redactChecksSpec)) redactChecksCard

/-- THE TIED CARD OF 'tracebooklaw56.RedactNames'. -/
def redactNamesCard : Claim7 := { stood := { row := redactNamesRow, standIns := [], harness := (true, "01854843d7e13e98e73cbdfbe7126731c7964627ecacdc64fed06ddbe0400a68"), looks := false }, kinds := [], alts := [], laidByText := true, laidKinds := [.data, .data, .data, .data, .pinned], laidTests := true, laidLooks := .later }
def RedactNamesCardSaid : Prop := Claim7.holds Tryz.pinned (.plain (OpenSpec.ofChange redactNamesSpec)) redactNamesCard

/-- THE TIED CARD OF 'tracebooklaw56.RedactDistinct'. -/
def redactDistinctCard : Claim7 := { stood := { row := redactDistinctRow, standIns := [], harness := (true, "01854843d7e13e98e73cbdfbe7126731c7964627ecacdc64fed06ddbe0400a68"), looks := false }, kinds := [], alts := [], laidByText := true, laidKinds := [.data, .data, .data, .data, .pinned], laidTests := true, laidLooks := .later }
def RedactDistinctCardSaid : Prop := Claim7.holds Tryz.pinned (.plain (OpenSpec.ofChange redactDistinctSpec)) redactDistinctCard

/-- THE TIED CARD OF 'tracebooklaw56.RedactTraces'. -/
def redactTracesCard : Claim7 := { stood := { row := redactTracesRow, standIns := [], harness := (true, "01854843d7e13e98e73cbdfbe7126731c7964627ecacdc64fed06ddbe0400a68"), looks := false }, kinds := [], alts := [], laidByText := true, laidKinds := [.data, .data, .data, .data, .pinned], laidTests := true, laidLooks := .later }
def RedactTracesCardSaid : Prop := Claim7.holds Tryz.pinned (.plain (OpenSpec.ofChange redactTracesSpec)) redactTracesCard

/-- THE TIED CARD OF 'tracebooklaw56.RedactCleans'. -/
def redactCleansCard : Claim7 := { stood := { row := redactCleansRow, standIns := [], harness := (true, "01854843d7e13e98e73cbdfbe7126731c7964627ecacdc64fed06ddbe0400a68"), looks := false }, kinds := [], alts := [], laidByText := true, laidKinds := [.data, .data, .data, .data, .pinned], laidTests := true, laidLooks := .later }
def RedactCleansCardSaid : Prop := Claim7.holds Tryz.pinned (.plain (OpenSpec.ofChange redactCleansSpec)) redactCleansCard

/-- THE TIED CARD OF 'tracebooklaw56.RedactKeeps'. -/
def redactKeepsCard : Claim7 := { stood := { row := redactKeepsRow, standIns := [], harness := (true, "01854843d7e13e98e73cbdfbe7126731c7964627ecacdc64fed06ddbe0400a68"), looks := false }, kinds := [], alts := [], laidByText := true, laidKinds := [.data, .data, .data, .data, .pinned], laidTests := true, laidLooks := .later }
def RedactKeepsCardSaid : Prop := Claim7.holds Tryz.pinned (.plain (OpenSpec.ofChange redactKeepsSpec)) redactKeepsCard

/-- THE TIED CARD OF 'tracebooklaw56.RedactDrops'. -/
def redactDropsCard : Claim7 := { stood := { row := redactDropsRow, standIns := [], harness := (true, "01854843d7e13e98e73cbdfbe7126731c7964627ecacdc64fed06ddbe0400a68"), looks := false }, kinds := [], alts := [], laidByText := true, laidKinds := [.data, .data, .data, .data, .pinned], laidTests := true, laidLooks := .later }
def RedactDropsCardSaid : Prop := Claim7.holds Tryz.pinned (.plain (OpenSpec.ofChange redactDropsSpec)) redactDropsCard

/-- THE SECOND FORM's CARD OF 'tracebooklaw56.RedactChecks'. -/
def redactChecksUptoCard : Claim7 := { stood := { row := redactChecksUptoRow, standIns := [], harness := (true, "01854843d7e13e98e73cbdfbe7126731c7964627ecacdc64fed06ddbe0400a68"), looks := false }, kinds := [], alts := [], laidByText := true, laidKinds := [.data, .data, .data, .data, .pinned], laidTests := true, laidLooks := .later }
def RedactChecksUptoCardSaid : Prop := Claim7.holds Tryz.pinned (.plain (OpenSpec.upto redactChecksSpec)) redactChecksUptoCard

/-- THE SECOND FORM's CARD OF 'tracebooklaw56.RedactNames'. -/
def redactNamesUptoCard : Claim7 := { stood := { row := redactNamesUptoRow, standIns := [], harness := (true, "01854843d7e13e98e73cbdfbe7126731c7964627ecacdc64fed06ddbe0400a68"), looks := false }, kinds := [], alts := [], laidByText := true, laidKinds := [.data, .data, .data, .data, .pinned], laidTests := true, laidLooks := .later }
def RedactNamesUptoCardSaid : Prop := Claim7.holds Tryz.pinned (.plain (OpenSpec.upto redactNamesSpec)) redactNamesUptoCard

/-- THE SECOND FORM's CARD OF 'tracebooklaw56.RedactDistinct'. -/
def redactDistinctUptoCard : Claim7 := { stood := { row := redactDistinctUptoRow, standIns := [], harness := (true, "01854843d7e13e98e73cbdfbe7126731c7964627ecacdc64fed06ddbe0400a68"), looks := false }, kinds := [], alts := [], laidByText := true, laidKinds := [.data, .data, .data, .data, .pinned], laidTests := true, laidLooks := .later }
def RedactDistinctUptoCardSaid : Prop := Claim7.holds Tryz.pinned (.plain (OpenSpec.upto redactDistinctSpec)) redactDistinctUptoCard

/-- THE SECOND FORM's CARD OF 'tracebooklaw56.RedactTraces'. -/
def redactTracesUptoCard : Claim7 := { stood := { row := redactTracesUptoRow, standIns := [], harness := (true, "01854843d7e13e98e73cbdfbe7126731c7964627ecacdc64fed06ddbe0400a68"), looks := false }, kinds := [], alts := [], laidByText := true, laidKinds := [.data, .data, .data, .data, .pinned], laidTests := true, laidLooks := .later }
def RedactTracesUptoCardSaid : Prop := Claim7.holds Tryz.pinned (.plain (OpenSpec.upto redactTracesSpec)) redactTracesUptoCard

/-- THE SECOND FORM's CARD OF 'tracebooklaw56.RedactCleans'. -/
def redactCleansUptoCard : Claim7 := { stood := { row := redactCleansUptoRow, standIns := [], harness := (true, "01854843d7e13e98e73cbdfbe7126731c7964627ecacdc64fed06ddbe0400a68"), looks := false }, kinds := [], alts := [], laidByText := true, laidKinds := [.data, .data, .data, .data, .pinned], laidTests := true, laidLooks := .later }
def RedactCleansUptoCardSaid : Prop := Claim7.holds Tryz.pinned (.plain (OpenSpec.upto redactCleansSpec)) redactCleansUptoCard

/-- THE SECOND FORM's CARD OF 'tracebooklaw56.RedactKeeps'. -/
def redactKeepsUptoCard : Claim7 := { stood := { row := redactKeepsUptoRow, standIns := [], harness := (true, "01854843d7e13e98e73cbdfbe7126731c7964627ecacdc64fed06ddbe0400a68"), looks := false }, kinds := [], alts := [], laidByText := true, laidKinds := [.data, .data, .data, .data, .pinned], laidTests := true, laidLooks := .later }
def RedactKeepsUptoCardSaid : Prop := Claim7.holds Tryz.pinned (.plain (OpenSpec.upto redactKeepsSpec)) redactKeepsUptoCard

/-- THE SECOND FORM's CARD OF 'tracebooklaw56.RedactDrops'. -/
def redactDropsUptoCard : Claim7 := { stood := { row := redactDropsUptoRow, standIns := [], harness := (true, "01854843d7e13e98e73cbdfbe7126731c7964627ecacdc64fed06ddbe0400a68"), looks := false }, kinds := [], alts := [], laidByText := true, laidKinds := [.data, .data, .data, .data, .pinned], laidTests := true, laidLooks := .later }
def RedactDropsUptoCardSaid : Prop := Claim7.holds Tryz.pinned (.plain (OpenSpec.upto redactDropsSpec)) redactDropsUptoCard
end Rows
end Go.Proofs.YtljpopkonkanlaaGreatDoor
