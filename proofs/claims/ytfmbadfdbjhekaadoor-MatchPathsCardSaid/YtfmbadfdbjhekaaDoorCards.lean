/-
  DERIVED. GIVEN WITH THE SEED: THE CARDS: each row of YtfmbadfdbjhekaaDoorRows.lean that lists a variable, with what it lists TIED to the program's text (the seventh form; the later family's looks); each row that meets fmt, with fmt's text TOLD by the authors' own Lean function (tested against real Go, not proved from fmt's source: count such statements apart). THE CARD IS WHAT COUNTS. Prove the row's statement (the work); the ties are given (YtfmbadfdbjhekaaDoorTie.lean); close each card by the builder's one call (the guide's Derived/Test/ToyasCard.lean, 'card_holds'). Laid BY PROGRAM, IN A SANDBOX (cutbox-door.mjs). By AI agents, Wed Nov 11 2026. No macro, syntax, notation, axiom, sorry.
-/
import Derived.Test.YtfmbadfdbjhekaaDoorRows
import GoSem.ClaimSeven
namespace Go.Proofs.YtfmbadfdbjhekaaDoor
namespace Rows

/-- THE TIED CARD OF 'tracebooklaw52.MatchOf'. -/
def matchOfCard : Claim7 := { stood := { row := matchOfRow, standIns := [], harness := (true, "1d29c644831c32203bc4f0fd4f385b32761aa2c75c2ce53d96fe55f58dcec1ad"), looks := false }, kinds := [], alts := [], laidByText := true, laidKinds := [.data, .data, .data], laidTests := true, laidLooks := .later }
def MatchOfCardSaid : Prop := Claim7.holds Tryd.pinned (.plain (OpenSpec.ofChange matchOfSpec)) matchOfCard

/-- THE TIED CARD OF 'tracebooklaw52.MatchChecks'. -/
def matchChecksCard : Claim7 := { stood := { row := matchChecksRow, standIns := [], harness := (true, "1d29c644831c32203bc4f0fd4f385b32761aa2c75c2ce53d96fe55f58dcec1ad"), looks := false }, kinds := [], alts := [], laidByText := true, laidKinds := [.data, .data, .data], laidTests := true, laidLooks := .later }
def MatchChecksCardSaid : Prop := Claim7.holds Tryd.pinned (.plain (OpenSpec.ofChange matchChecksSpec)) matchChecksCard

/-- THE TIED CARD OF 'tracebooklaw52.MatchSelf'. -/
def matchSelfCard : Claim7 := { stood := { row := matchSelfRow, standIns := [], harness := (true, "1d29c644831c32203bc4f0fd4f385b32761aa2c75c2ce53d96fe55f58dcec1ad"), looks := false }, kinds := [], alts := [], laidByText := true, laidKinds := [.data, .data, .data], laidTests := true, laidLooks := .later }
def MatchSelfCardSaid : Prop := Claim7.holds Tryd.pinned (.plain (OpenSpec.ofChange matchSelfSpec)) matchSelfCard

/-- THE TIED CARD OF 'tracebooklaw52.MatchShapes'. -/
def matchShapesCard : Claim7 := { stood := { row := matchShapesRow, standIns := [], harness := (true, "1d29c644831c32203bc4f0fd4f385b32761aa2c75c2ce53d96fe55f58dcec1ad"), looks := false }, kinds := [], alts := [], laidByText := true, laidKinds := [.data, .data, .data], laidTests := true, laidLooks := .later }
def MatchShapesCardSaid : Prop := Claim7.holds Tryd.pinned (.plain (OpenSpec.ofChange matchShapesSpec)) matchShapesCard

/-- THE TIED CARD OF 'tracebooklaw52.MatchShape'. -/
def matchShapeCard : Claim7 := { stood := { row := matchShapeRow, standIns := [], harness := (true, "1d29c644831c32203bc4f0fd4f385b32761aa2c75c2ce53d96fe55f58dcec1ad"), looks := false }, kinds := [], alts := [], laidByText := true, laidKinds := [.data, .data, .data], laidTests := true, laidLooks := .later }
def MatchShapeCardSaid : Prop := Claim7.holds Tryd.pinned (.plain (OpenSpec.ofChange matchShapeSpec)) matchShapeCard

/-- THE TIED CARD OF 'tracebooklaw52.MatchPaths'. -/
def matchPathsCard : Claim7 := { stood := { row := matchPathsRow, standIns := [], harness := (true, "1d29c644831c32203bc4f0fd4f385b32761aa2c75c2ce53d96fe55f58dcec1ad"), looks := false }, kinds := [], alts := [], laidByText := true, laidKinds := [.data, .data, .data], laidTests := true, laidLooks := .later }
def MatchPathsCardSaid : Prop := Claim7.holds Tryd.pinned (.plain (OpenSpec.ofChange matchPathsSpec)) matchPathsCard

/-- THE SECOND FORM's CARD OF 'tracebooklaw52.MatchOf'. -/
def matchOfUptoCard : Claim7 := { stood := { row := matchOfUptoRow, standIns := [], harness := (true, "1d29c644831c32203bc4f0fd4f385b32761aa2c75c2ce53d96fe55f58dcec1ad"), looks := false }, kinds := [], alts := [], laidByText := true, laidKinds := [.data, .data, .data], laidTests := true, laidLooks := .later }
def MatchOfUptoCardSaid : Prop := Claim7.holds Tryd.pinned (.plain (OpenSpec.upto matchOfSpec)) matchOfUptoCard

/-- THE SECOND FORM's CARD OF 'tracebooklaw52.MatchChecks'. -/
def matchChecksUptoCard : Claim7 := { stood := { row := matchChecksUptoRow, standIns := [], harness := (true, "1d29c644831c32203bc4f0fd4f385b32761aa2c75c2ce53d96fe55f58dcec1ad"), looks := false }, kinds := [], alts := [], laidByText := true, laidKinds := [.data, .data, .data], laidTests := true, laidLooks := .later }
def MatchChecksUptoCardSaid : Prop := Claim7.holds Tryd.pinned (.plain (OpenSpec.upto matchChecksSpec)) matchChecksUptoCard

/-- THE SECOND FORM's CARD OF 'tracebooklaw52.MatchSelf'. -/
def matchSelfUptoCard : Claim7 := { stood := { row := matchSelfUptoRow, standIns := [], harness := (true, "1d29c644831c32203bc4f0fd4f385b32761aa2c75c2ce53d96fe55f58dcec1ad"), looks := false }, kinds := [], alts := [], laidByText := true, laidKinds := [.data, .data, .data], laidTests := true, laidLooks := .later }
def MatchSelfUptoCardSaid : Prop := Claim7.holds Tryd.pinned (.plain (OpenSpec.upto matchSelfSpec)) matchSelfUptoCard

/-- THE SECOND FORM's CARD OF 'tracebooklaw52.MatchShapes'. -/
def matchShapesUptoCard : Claim7 := { stood := { row := matchShapesUptoRow, standIns := [], harness := (true, "1d29c644831c32203bc4f0fd4f385b32761aa2c75c2ce53d96fe55f58dcec1ad"), looks := false }, kinds := [], alts := [], laidByText := true, laidKinds := [.data, .data, .data], laidTests := true, laidLooks := .later }
def MatchShapesUptoCardSaid : Prop := Claim7.holds Tryd.pinned (.plain (OpenSpec.upto matchShapesSpec)) matchShapesUptoCard

/-- THE SECOND FORM's CARD OF 'tracebooklaw52.MatchShape'. -/
def matchShapeUptoCard : Claim7 := { stood := { row := matchShapeUptoRow, standIns := [], harness := (true, "1d29c644831c32203bc4f0fd4f385b32761aa2c75c2ce53d96fe55f58dcec1ad"), looks := false }, kinds := [], alts := [], laidByText := true, laidKinds := [.data, .data, .data], laidTests := true, laidLooks := .later }
def MatchShapeUptoCardSaid : Prop := Claim7.holds Tryd.pinned (.plain (OpenSpec.upto matchShapeSpec)) matchShapeUptoCard

/-- THE SECOND FORM's CARD OF 'tracebooklaw52.MatchPaths'. -/
def matchPathsUptoCard : Claim7 := { stood := { row := matchPathsUptoRow, standIns := [], harness := (true, "1d29c644831c32203bc4f0fd4f385b32761aa2c75c2ce53d96fe55f58dcec1ad"), looks := false }, kinds := [], alts := [], laidByText := true, laidKinds := [.data, .data, .data], laidTests := true, laidLooks := .later }
def MatchPathsUptoCardSaid : Prop := Claim7.holds Tryd.pinned (.plain (OpenSpec.upto matchPathsSpec)) matchPathsUptoCard
end Rows
end Go.Proofs.YtfmbadfdbjhekaaDoor
