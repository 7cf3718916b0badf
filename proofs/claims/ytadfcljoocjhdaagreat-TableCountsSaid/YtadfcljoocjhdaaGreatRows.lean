/-
  No cell of these rows narrows 'for every input' (looked for: loops, veiled, ifaces, maps, wideKeys, modest, calm, conditions, laid).
  DERIVED. THE GIVEN ROWS OF THIS SEAT. 9 by the template 'for every input the law returns true; each argument reads behind the call as it read before'; 0 by the template 'total and deterministic' (their statements: YtadfcljoocjhdaaGreatTotals.lean).
  GIVEN WITH THE SEED: the statements are not yours to turn. If you find one false, say at which input.
  Laid BY PROGRAM, IN A SANDBOX (cutbox-rows.mjs): the forced cells as the released guide's own fill.sh prints them over the translation 668456753f4525dd… (all of the seat's roots in one cut). By AI agents, Wed Nov 11 2026. No macro, syntax, notation, axiom, sorry.
-/
import Derived.Test.YtadfcljoocjhdaaGreatChecked
import GoSem.Claim
import GoSem.ClaimJoined
import GoSem.ClaimMapViews
import Derived.JoinedTies
import Derived.KernelRfl
namespace Go.Proofs.YtadfcljoocjhdaaGreat
/- THE CELL 'sum', in the pinned program and in every row, IS THE sha256 OF THE DUMP (.gsa) THAT YtadfcljoocjhdaaGreatProg.lean LOADS. Nothing in Lean hashes anything: it is a label: what it is worth is what the hold of that sum in a sandbox is worth. -/
noncomputable def Tryz.pinned : Pinned := { name := "ytadfcljoocjhdaagreat", sum := "668456753f4525dd2264ddfdfd197376074b180554a104adbbb9fa2b071df6a8", checked := Tryz.checked }
namespace Rows
def none {H : Type} : Left H := { results := [], args := [] }

/-- 'tracebooklaw34.TableChecks': WHATEVER THE INPUT: true; the input reads as it did. -/
def tableChecksSpec : ChangeSpec := { name := "tableChecks", fn := fun _ => fun
  | [d] => { results := [.lit (.bool true)], args := [d] }
  | _ => none }
def tableChecksRow : OpenClaim := { program := "ytadfcljoocjhdaagreat", sum := "668456753f4525dd2264ddfdfd197376074b180554a104adbbb9fa2b071df6a8", func := "tracebook/tracebooklaw34.TableChecks", spec := "tableChecks", inPlace := ["internal/bytealg.IndexByteString"], unfollowed := true, recurses := true, apart := false }
def TableChecksSaid : Prop := tableChecksRow.holds Tryz.pinned (OpenSpec.ofChange tableChecksSpec)

/-- ITS FALSE NEIGHBOUR: 'it returns false'. Refute it at one input. -/
def tableChecksWrong : ChangeSpec := { name := "tableChecks", fn := fun _ => fun
  | [d] => { results := [.lit (.bool false)], args := [d] }
  | _ => none }
def TableChecksWrongFalsely : Prop := tableChecksRow.holds Tryz.pinned (OpenSpec.ofChange tableChecksWrong)

/-- 'tracebooklaw34.TableBases': WHATEVER THE INPUT: true; the input reads as it did. -/
def tableBasesSpec : ChangeSpec := { name := "tableBases", fn := fun _ => fun
  | [d] => { results := [.lit (.bool true)], args := [d] }
  | _ => none }
def tableBasesRow : OpenClaim := { program := "ytadfcljoocjhdaagreat", sum := "668456753f4525dd2264ddfdfd197376074b180554a104adbbb9fa2b071df6a8", func := "tracebook/tracebooklaw34.TableBases", spec := "tableBases", inPlace := ["internal/bytealg.IndexByteString"], unfollowed := true, recurses := true, apart := false }
def TableBasesSaid : Prop := tableBasesRow.holds Tryz.pinned (OpenSpec.ofChange tableBasesSpec)

/-- ITS FALSE NEIGHBOUR: 'it returns false'. Refute it at one input. -/
def tableBasesWrong : ChangeSpec := { name := "tableBases", fn := fun _ => fun
  | [d] => { results := [.lit (.bool false)], args := [d] }
  | _ => none }
def TableBasesWrongFalsely : Prop := tableBasesRow.holds Tryz.pinned (OpenSpec.ofChange tableBasesWrong)

/-- 'tracebooklaw34.TableLong': WHATEVER THE INPUT: true; the input reads as it did. -/
def tableLongSpec : ChangeSpec := { name := "tableLong", fn := fun _ => fun
  | [d] => { results := [.lit (.bool true)], args := [d] }
  | _ => none }
def tableLongRow : OpenClaim := { program := "ytadfcljoocjhdaagreat", sum := "668456753f4525dd2264ddfdfd197376074b180554a104adbbb9fa2b071df6a8", func := "tracebook/tracebooklaw34.TableLong", spec := "tableLong", inPlace := ["internal/bytealg.IndexByteString"], unfollowed := true, recurses := true, apart := false }
def TableLongSaid : Prop := tableLongRow.holds Tryz.pinned (OpenSpec.ofChange tableLongSpec)

/-- ITS FALSE NEIGHBOUR: 'it returns false'. Refute it at one input. -/
def tableLongWrong : ChangeSpec := { name := "tableLong", fn := fun _ => fun
  | [d] => { results := [.lit (.bool false)], args := [d] }
  | _ => none }
def TableLongWrongFalsely : Prop := tableLongRow.holds Tryz.pinned (OpenSpec.ofChange tableLongWrong)

/-- 'tracebooklaw34.TableTraces': WHATEVER THE INPUT: true; the input reads as it did. -/
def tableTracesSpec : ChangeSpec := { name := "tableTraces", fn := fun _ => fun
  | [d] => { results := [.lit (.bool true)], args := [d] }
  | _ => none }
def tableTracesRow : OpenClaim := { program := "ytadfcljoocjhdaagreat", sum := "668456753f4525dd2264ddfdfd197376074b180554a104adbbb9fa2b071df6a8", func := "tracebook/tracebooklaw34.TableTraces", spec := "tableTraces", inPlace := ["internal/bytealg.IndexByteString"], unfollowed := true, recurses := true, apart := false }
def TableTracesSaid : Prop := tableTracesRow.holds Tryz.pinned (OpenSpec.ofChange tableTracesSpec)

/-- ITS FALSE NEIGHBOUR: 'it returns false'. Refute it at one input. -/
def tableTracesWrong : ChangeSpec := { name := "tableTraces", fn := fun _ => fun
  | [d] => { results := [.lit (.bool false)], args := [d] }
  | _ => none }
def TableTracesWrongFalsely : Prop := tableTracesRow.holds Tryz.pinned (OpenSpec.ofChange tableTracesWrong)

/-- 'tracebooklaw34.TableCounts': WHATEVER THE INPUT: true; the input reads as it did. -/
def tableCountsSpec : ChangeSpec := { name := "tableCounts", fn := fun _ => fun
  | [d] => { results := [.lit (.bool true)], args := [d] }
  | _ => none }
def tableCountsRow : OpenClaim := { program := "ytadfcljoocjhdaagreat", sum := "668456753f4525dd2264ddfdfd197376074b180554a104adbbb9fa2b071df6a8", func := "tracebook/tracebooklaw34.TableCounts", spec := "tableCounts", inPlace := ["internal/bytealg.IndexByteString"], unfollowed := true, recurses := true, apart := false }
def TableCountsSaid : Prop := tableCountsRow.holds Tryz.pinned (OpenSpec.ofChange tableCountsSpec)

/-- ITS FALSE NEIGHBOUR: 'it returns false'. Refute it at one input. -/
def tableCountsWrong : ChangeSpec := { name := "tableCounts", fn := fun _ => fun
  | [d] => { results := [.lit (.bool false)], args := [d] }
  | _ => none }
def TableCountsWrongFalsely : Prop := tableCountsRow.holds Tryz.pinned (OpenSpec.ofChange tableCountsWrong)

/-- 'tracebooklaw34.TableFinds': WHATEVER THE INPUT: true; the input reads as it did. -/
def tableFindsSpec : ChangeSpec := { name := "tableFinds", fn := fun _ => fun
  | [d1, d2, d3] => { results := [.lit (.bool true)], args := [d1, d2, d3] }
  | _ => none }
def tableFindsRow : OpenClaim := { program := "ytadfcljoocjhdaagreat", sum := "668456753f4525dd2264ddfdfd197376074b180554a104adbbb9fa2b071df6a8", func := "tracebook/tracebooklaw34.TableFinds", spec := "tableFinds", inPlace := ["internal/bytealg.IndexByteString"], unfollowed := true, recurses := true, apart := false }
def TableFindsSaid : Prop := tableFindsRow.holds Tryz.pinned (OpenSpec.ofChange tableFindsSpec)

/-- ITS FALSE NEIGHBOUR: 'it returns false'. Refute it at one input. -/
def tableFindsWrong : ChangeSpec := { name := "tableFinds", fn := fun _ => fun
  | [d1, d2, d3] => { results := [.lit (.bool false)], args := [d1, d2, d3] }
  | _ => none }
def TableFindsWrongFalsely : Prop := tableFindsRow.holds Tryz.pinned (OpenSpec.ofChange tableFindsWrong)

/-- 'tracebooklaw34.TableOrders': WHATEVER THE INPUT: true; the input reads as it did. -/
def tableOrdersSpec : ChangeSpec := { name := "tableOrders", fn := fun _ => fun
  | [d1, d2, d3] => { results := [.lit (.bool true)], args := [d1, d2, d3] }
  | _ => none }
def tableOrdersRow : OpenClaim := { program := "ytadfcljoocjhdaagreat", sum := "668456753f4525dd2264ddfdfd197376074b180554a104adbbb9fa2b071df6a8", func := "tracebook/tracebooklaw34.TableOrders", spec := "tableOrders", inPlace := ["internal/bytealg.IndexByteString"], unfollowed := true, recurses := true, apart := false }
def TableOrdersSaid : Prop := tableOrdersRow.holds Tryz.pinned (OpenSpec.ofChange tableOrdersSpec)

/-- ITS FALSE NEIGHBOUR: 'it returns false'. Refute it at one input. -/
def tableOrdersWrong : ChangeSpec := { name := "tableOrders", fn := fun _ => fun
  | [d1, d2, d3] => { results := [.lit (.bool false)], args := [d1, d2, d3] }
  | _ => none }
def TableOrdersWrongFalsely : Prop := tableOrdersRow.holds Tryz.pinned (OpenSpec.ofChange tableOrdersWrong)

/-- 'tracebooklaw34.TableSorts': WHATEVER THE INPUT: true; the input reads as it did. -/
def tableSortsSpec : ChangeSpec := { name := "tableSorts", fn := fun _ => fun
  | [d1, d2] => { results := [.lit (.bool true)], args := [d1, d2] }
  | _ => none }
def tableSortsRow : OpenClaim := { program := "ytadfcljoocjhdaagreat", sum := "668456753f4525dd2264ddfdfd197376074b180554a104adbbb9fa2b071df6a8", func := "tracebook/tracebooklaw34.TableSorts", spec := "tableSorts", inPlace := ["internal/bytealg.IndexByteString"], unfollowed := true, recurses := true, apart := false }
def TableSortsSaid : Prop := tableSortsRow.holds Tryz.pinned (OpenSpec.ofChange tableSortsSpec)

/-- ITS FALSE NEIGHBOUR: 'it returns false'. Refute it at one input. -/
def tableSortsWrong : ChangeSpec := { name := "tableSorts", fn := fun _ => fun
  | [d1, d2] => { results := [.lit (.bool false)], args := [d1, d2] }
  | _ => none }
def TableSortsWrongFalsely : Prop := tableSortsRow.holds Tryz.pinned (OpenSpec.ofChange tableSortsWrong)

/-- 'tracebooklaw34.TableKeeps': WHATEVER THE INPUT: true; the input reads as it did. -/
def tableKeepsSpec : ChangeSpec := { name := "tableKeeps", fn := fun _ => fun
  | [d1, d2] => { results := [.lit (.bool true)], args := [d1, d2] }
  | _ => none }
def tableKeepsRow : OpenClaim := { program := "ytadfcljoocjhdaagreat", sum := "668456753f4525dd2264ddfdfd197376074b180554a104adbbb9fa2b071df6a8", func := "tracebook/tracebooklaw34.TableKeeps", spec := "tableKeeps", inPlace := ["internal/bytealg.IndexByteString"], unfollowed := true, recurses := true, apart := false }
def TableKeepsSaid : Prop := tableKeepsRow.holds Tryz.pinned (OpenSpec.ofChange tableKeepsSpec)

/-- ITS FALSE NEIGHBOUR: 'it returns false'. Refute it at one input. -/
def tableKeepsWrong : ChangeSpec := { name := "tableKeeps", fn := fun _ => fun
  | [d1, d2] => { results := [.lit (.bool false)], args := [d1, d2] }
  | _ => none }
def TableKeepsWrongFalsely : Prop := tableKeepsRow.holds Tryz.pinned (OpenSpec.ofChange tableKeepsWrong)

/- THE SECOND FORM. 'bulk': how many values and letters a reading holds, each counted each time it is reached (what is shared counts as often as it is met; a slice's spare places count too). A statement '..UptoSaid' is the law's where the arguments, and the package variables that the reading takes, are together of bulk at most 1048576: NARROWER than '..Said'. Prove '..Said' where nothing that the law and all that it calls make is longer than what came in: it says more and counts as full. Else prove '..UptoSaid'. A law counts once. -/
mutual
def uptoBulk {H : Type} : DataW H → Nat
  | .lit (.string bytes) => bytes.length + 1
  | .lit _ => 1
  | .nil => 1
  | .ptr d => uptoBulk d + 1
  | .slice elems spare => uptoBulkAll elems + uptoBulkAll spare + 1
  | .agg parts => uptoBulkAll parts + 1
  | .iface _ d => uptoBulk d + 1
  | .map entries => uptoBulkEntries entries + 1
  | .held _ => 1
def uptoBulkAll {H : Type} : List (DataW H) → Nat
  | [] => 0
  | d :: r => uptoBulk d + uptoBulkAll r
def uptoBulkEntries {H : Type} : List (Lit × DataW H) → Nat
  | [] => 0
  | x :: r => uptoBulkEntry x + uptoBulkEntries r
def uptoBulkEntry {H : Type} : Lit × DataW H → Nat
  | (.string bytes, d) => bytes.length + uptoBulk d + 1
  | (_, d) => uptoBulk d + 1
 end
def uptoSmall : (H : Type) → List (DataW H) → Bool := fun _ ds => decide (uptoBulkAll ds ≤ 1048576)
def OpenSpec.upto (s : _root_.Go.ChangeSpec) : _root_.Go.OpenSpec := { _root_.Go.OpenSpec.ofChange s with cond := some uptoSmall }

/-- 'tracebooklaw34.TableChecks', WHERE WHAT IT READS IS OF BULK AT MOST 1048576: true; the input reads as it did. -/
def tableChecksUptoRow : OpenClaim := { program := "ytadfcljoocjhdaagreat", sum := "668456753f4525dd2264ddfdfd197376074b180554a104adbbb9fa2b071df6a8", func := "tracebook/tracebooklaw34.TableChecks", spec := "tableChecks", inPlace := ["internal/bytealg.IndexByteString"], unfollowed := true, recurses := true, apart := false, narrowed := true }
def TableChecksUptoSaid : Prop := tableChecksUptoRow.holds Tryz.pinned (OpenSpec.upto tableChecksSpec)

/-- 'tracebooklaw34.TableBases', WHERE WHAT IT READS IS OF BULK AT MOST 1048576: true; the input reads as it did. -/
def tableBasesUptoRow : OpenClaim := { program := "ytadfcljoocjhdaagreat", sum := "668456753f4525dd2264ddfdfd197376074b180554a104adbbb9fa2b071df6a8", func := "tracebook/tracebooklaw34.TableBases", spec := "tableBases", inPlace := ["internal/bytealg.IndexByteString"], unfollowed := true, recurses := true, apart := false, narrowed := true }
def TableBasesUptoSaid : Prop := tableBasesUptoRow.holds Tryz.pinned (OpenSpec.upto tableBasesSpec)

/-- 'tracebooklaw34.TableLong', WHERE WHAT IT READS IS OF BULK AT MOST 1048576: true; the input reads as it did. -/
def tableLongUptoRow : OpenClaim := { program := "ytadfcljoocjhdaagreat", sum := "668456753f4525dd2264ddfdfd197376074b180554a104adbbb9fa2b071df6a8", func := "tracebook/tracebooklaw34.TableLong", spec := "tableLong", inPlace := ["internal/bytealg.IndexByteString"], unfollowed := true, recurses := true, apart := false, narrowed := true }
def TableLongUptoSaid : Prop := tableLongUptoRow.holds Tryz.pinned (OpenSpec.upto tableLongSpec)

/-- 'tracebooklaw34.TableTraces', WHERE WHAT IT READS IS OF BULK AT MOST 1048576: true; the input reads as it did. -/
def tableTracesUptoRow : OpenClaim := { program := "ytadfcljoocjhdaagreat", sum := "668456753f4525dd2264ddfdfd197376074b180554a104adbbb9fa2b071df6a8", func := "tracebook/tracebooklaw34.TableTraces", spec := "tableTraces", inPlace := ["internal/bytealg.IndexByteString"], unfollowed := true, recurses := true, apart := false, narrowed := true }
def TableTracesUptoSaid : Prop := tableTracesUptoRow.holds Tryz.pinned (OpenSpec.upto tableTracesSpec)

/-- 'tracebooklaw34.TableCounts', WHERE WHAT IT READS IS OF BULK AT MOST 1048576: true; the input reads as it did. -/
def tableCountsUptoRow : OpenClaim := { program := "ytadfcljoocjhdaagreat", sum := "668456753f4525dd2264ddfdfd197376074b180554a104adbbb9fa2b071df6a8", func := "tracebook/tracebooklaw34.TableCounts", spec := "tableCounts", inPlace := ["internal/bytealg.IndexByteString"], unfollowed := true, recurses := true, apart := false, narrowed := true }
def TableCountsUptoSaid : Prop := tableCountsUptoRow.holds Tryz.pinned (OpenSpec.upto tableCountsSpec)

/-- 'tracebooklaw34.TableFinds', WHERE WHAT IT READS IS OF BULK AT MOST 1048576: true; the input reads as it did. -/
def tableFindsUptoRow : OpenClaim := { program := "ytadfcljoocjhdaagreat", sum := "668456753f4525dd2264ddfdfd197376074b180554a104adbbb9fa2b071df6a8", func := "tracebook/tracebooklaw34.TableFinds", spec := "tableFinds", inPlace := ["internal/bytealg.IndexByteString"], unfollowed := true, recurses := true, apart := false, narrowed := true }
def TableFindsUptoSaid : Prop := tableFindsUptoRow.holds Tryz.pinned (OpenSpec.upto tableFindsSpec)

/-- 'tracebooklaw34.TableOrders', WHERE WHAT IT READS IS OF BULK AT MOST 1048576: true; the input reads as it did. -/
def tableOrdersUptoRow : OpenClaim := { program := "ytadfcljoocjhdaagreat", sum := "668456753f4525dd2264ddfdfd197376074b180554a104adbbb9fa2b071df6a8", func := "tracebook/tracebooklaw34.TableOrders", spec := "tableOrders", inPlace := ["internal/bytealg.IndexByteString"], unfollowed := true, recurses := true, apart := false, narrowed := true }
def TableOrdersUptoSaid : Prop := tableOrdersUptoRow.holds Tryz.pinned (OpenSpec.upto tableOrdersSpec)

/-- 'tracebooklaw34.TableSorts', WHERE WHAT IT READS IS OF BULK AT MOST 1048576: true; the input reads as it did. -/
def tableSortsUptoRow : OpenClaim := { program := "ytadfcljoocjhdaagreat", sum := "668456753f4525dd2264ddfdfd197376074b180554a104adbbb9fa2b071df6a8", func := "tracebook/tracebooklaw34.TableSorts", spec := "tableSorts", inPlace := ["internal/bytealg.IndexByteString"], unfollowed := true, recurses := true, apart := false, narrowed := true }
def TableSortsUptoSaid : Prop := tableSortsUptoRow.holds Tryz.pinned (OpenSpec.upto tableSortsSpec)

/-- 'tracebooklaw34.TableKeeps', WHERE WHAT IT READS IS OF BULK AT MOST 1048576: true; the input reads as it did. -/
def tableKeepsUptoRow : OpenClaim := { program := "ytadfcljoocjhdaagreat", sum := "668456753f4525dd2264ddfdfd197376074b180554a104adbbb9fa2b071df6a8", func := "tracebook/tracebooklaw34.TableKeeps", spec := "tableKeeps", inPlace := ["internal/bytealg.IndexByteString"], unfollowed := true, recurses := true, apart := false, narrowed := true }
def TableKeepsUptoSaid : Prop := tableKeepsUptoRow.holds Tryz.pinned (OpenSpec.upto tableKeepsSpec)

end Rows
end Go.Proofs.YtadfcljoocjhdaaGreat
