/-
  No cell of these rows narrows 'for every input' (looked for: loops, veiled, ifaces, maps, wideKeys, modest, calm, conditions, laid).
  DERIVED. THE GIVEN ROWS OF THIS SEAT. 5 by the template 'for every input the law returns true; each argument reads behind the call as it read before'; 0 by the template 'total and deterministic' (their statements: YtgebmgahfpnjaaaTotals.lean).
  GIVEN WITH THE SEED: the statements are not yours to turn. If you find one false, say at which input.
  Laid BY PROGRAM, IN A SANDBOX (cutbox-rows.mjs): the forced cells as the released guide's own fill.sh prints them over the translation c68c40475c06b045… (all of the seat's roots in one cut). By AI agents, Wed Nov 11 2026. No macro, syntax, notation, axiom, sorry.
-/
import Derived.Test.YtgebmgahfpnjaaaChecked
import GoSem.Claim
import GoSem.ClaimJoined
import GoSem.ClaimMapViews
import Derived.JoinedTies
import Derived.KernelRfl
namespace Go.Proofs.Ytgebmgahfpnjaaa
/- THE CELL 'sum', in the pinned program and in every row, IS THE sha256 OF THE DUMP (.gsa) THAT YtgebmgahfpnjaaaProg.lean LOADS. Nothing in Lean hashes anything: it is a label: what it is worth is what the hold of that sum in a sandbox is worth. -/
noncomputable def Try.pinned : Pinned := { name := "ytgebmgahfpnjaaa", sum := "c68c40475c06b04556c08dca52ac49f5b1b4ea5c8032cf19515d2c2d1ae9f286", checked := Try.checked }
namespace Rows
def none {H : Type} : Left H := { results := [], args := [] }

/-- 'tracebooklaw31.MemoryOf': WHATEVER THE INPUT: true; the input reads as it did. -/
def memoryOfSpec : ChangeSpec := { name := "memoryOf", fn := fun _ => fun
  | [d1, d2] => { results := [.lit (.bool true)], args := [d1, d2] }
  | _ => none }
def memoryOfRow : OpenClaim := { program := "ytgebmgahfpnjaaa", sum := "c68c40475c06b04556c08dca52ac49f5b1b4ea5c8032cf19515d2c2d1ae9f286", func := "tracebook/tracebooklaw31.MemoryOf", spec := "memoryOf", inPlace := ["internal/bytealg.IndexByteString"], unfollowed := true, recurses := true, apart := false }
def MemoryOfSaid : Prop := memoryOfRow.holds Try.pinned (OpenSpec.ofChange memoryOfSpec)

/-- ITS FALSE NEIGHBOUR: 'it returns false'. Refute it at one input. -/
def memoryOfWrong : ChangeSpec := { name := "memoryOf", fn := fun _ => fun
  | [d1, d2] => { results := [.lit (.bool false)], args := [d1, d2] }
  | _ => none }
def MemoryOfWrongFalsely : Prop := memoryOfRow.holds Try.pinned (OpenSpec.ofChange memoryOfWrong)

/-- 'tracebooklaw31.MemoryChecks': WHATEVER THE INPUT: true; the input reads as it did. -/
def memoryChecksSpec : ChangeSpec := { name := "memoryChecks", fn := fun _ => fun
  | [d1, d2] => { results := [.lit (.bool true)], args := [d1, d2] }
  | _ => none }
def memoryChecksRow : OpenClaim := { program := "ytgebmgahfpnjaaa", sum := "c68c40475c06b04556c08dca52ac49f5b1b4ea5c8032cf19515d2c2d1ae9f286", func := "tracebook/tracebooklaw31.MemoryChecks", spec := "memoryChecks", inPlace := ["internal/bytealg.IndexByteString"], unfollowed := true, recurses := true, apart := false }
def MemoryChecksSaid : Prop := memoryChecksRow.holds Try.pinned (OpenSpec.ofChange memoryChecksSpec)

/-- ITS FALSE NEIGHBOUR: 'it returns false'. Refute it at one input. -/
def memoryChecksWrong : ChangeSpec := { name := "memoryChecks", fn := fun _ => fun
  | [d1, d2] => { results := [.lit (.bool false)], args := [d1, d2] }
  | _ => none }
def MemoryChecksWrongFalsely : Prop := memoryChecksRow.holds Try.pinned (OpenSpec.ofChange memoryChecksWrong)

/-- 'tracebooklaw31.MemoryPeak': WHATEVER THE INPUT: true; the input reads as it did. -/
def memoryPeakSpec : ChangeSpec := { name := "memoryPeak", fn := fun _ => fun
  | [d1, d2] => { results := [.lit (.bool true)], args := [d1, d2] }
  | _ => none }
def memoryPeakRow : OpenClaim := { program := "ytgebmgahfpnjaaa", sum := "c68c40475c06b04556c08dca52ac49f5b1b4ea5c8032cf19515d2c2d1ae9f286", func := "tracebook/tracebooklaw31.MemoryPeak", spec := "memoryPeak", inPlace := ["internal/bytealg.IndexByteString"], unfollowed := true, recurses := true, apart := false }
def MemoryPeakSaid : Prop := memoryPeakRow.holds Try.pinned (OpenSpec.ofChange memoryPeakSpec)

/-- ITS FALSE NEIGHBOUR: 'it returns false'. Refute it at one input. -/
def memoryPeakWrong : ChangeSpec := { name := "memoryPeak", fn := fun _ => fun
  | [d1, d2] => { results := [.lit (.bool false)], args := [d1, d2] }
  | _ => none }
def MemoryPeakWrongFalsely : Prop := memoryPeakRow.holds Try.pinned (OpenSpec.ofChange memoryPeakWrong)

/-- 'tracebooklaw31.MemoryEnds': WHATEVER THE INPUT: true; the input reads as it did. -/
def memoryEndsSpec : ChangeSpec := { name := "memoryEnds", fn := fun _ => fun
  | [d1, d2] => { results := [.lit (.bool true)], args := [d1, d2] }
  | _ => none }
def memoryEndsRow : OpenClaim := { program := "ytgebmgahfpnjaaa", sum := "c68c40475c06b04556c08dca52ac49f5b1b4ea5c8032cf19515d2c2d1ae9f286", func := "tracebook/tracebooklaw31.MemoryEnds", spec := "memoryEnds", inPlace := ["internal/bytealg.IndexByteString"], unfollowed := true, recurses := true, apart := false }
def MemoryEndsSaid : Prop := memoryEndsRow.holds Try.pinned (OpenSpec.ofChange memoryEndsSpec)

/-- ITS FALSE NEIGHBOUR: 'it returns false'. Refute it at one input. -/
def memoryEndsWrong : ChangeSpec := { name := "memoryEnds", fn := fun _ => fun
  | [d1, d2] => { results := [.lit (.bool false)], args := [d1, d2] }
  | _ => none }
def MemoryEndsWrongFalsely : Prop := memoryEndsRow.holds Try.pinned (OpenSpec.ofChange memoryEndsWrong)

/-- 'tracebooklaw31.MemoryLater': WHATEVER THE INPUT: true; the input reads as it did. -/
def memoryLaterSpec : ChangeSpec := { name := "memoryLater", fn := fun _ => fun
  | [d1, d2, d3] => { results := [.lit (.bool true)], args := [d1, d2, d3] }
  | _ => none }
def memoryLaterRow : OpenClaim := { program := "ytgebmgahfpnjaaa", sum := "c68c40475c06b04556c08dca52ac49f5b1b4ea5c8032cf19515d2c2d1ae9f286", func := "tracebook/tracebooklaw31.MemoryLater", spec := "memoryLater", inPlace := ["internal/bytealg.IndexByteString"], unfollowed := true, recurses := true, apart := false }
def MemoryLaterSaid : Prop := memoryLaterRow.holds Try.pinned (OpenSpec.ofChange memoryLaterSpec)

/-- ITS FALSE NEIGHBOUR: 'it returns false'. Refute it at one input. -/
def memoryLaterWrong : ChangeSpec := { name := "memoryLater", fn := fun _ => fun
  | [d1, d2, d3] => { results := [.lit (.bool false)], args := [d1, d2, d3] }
  | _ => none }
def MemoryLaterWrongFalsely : Prop := memoryLaterRow.holds Try.pinned (OpenSpec.ofChange memoryLaterWrong)

/- THE SECOND FORM. 'bulk': how many values and letters a reading holds, each counted each time it is reached (what is shared counts as often as it is met; a slice's spare places count too). A statement '..UptoSaid' is the law's where the arguments, and the package variables that the reading takes, are together of bulk at most 1048576: NARROWER than '..Said'. Prove '..Said' where nothing that the law and all that it calls make is longer than what came in: it says more and counts as full. Else prove '..UptoSaid'. A law counts once. -/
mutual
def uptoBulk {H : Type} : DataW H → Nat
  | .lit (.string bytes) => bytes.length + 1
  | .lit _ => 1
  | .nil => 1
  | .ptr d => uptoBulk d + 1
  | .slice elems spare => uptoBulkAll elems + uptoBulkAll spare + 1
  | .agg parts => uptoBulkAll parts + 1
  | .iface _ d => uptoBulk d + 1
  | .map entries => uptoBulkEntries entries + 1
  | .held _ => 1
def uptoBulkAll {H : Type} : List (DataW H) → Nat
  | [] => 0
  | d :: r => uptoBulk d + uptoBulkAll r
def uptoBulkEntries {H : Type} : List (Lit × DataW H) → Nat
  | [] => 0
  | x :: r => uptoBulkEntry x + uptoBulkEntries r
def uptoBulkEntry {H : Type} : Lit × DataW H → Nat
  | (.string bytes, d) => bytes.length + uptoBulk d + 1
  | (_, d) => uptoBulk d + 1
 end
def uptoSmall : (H : Type) → List (DataW H) → Bool := fun _ ds => decide (uptoBulkAll ds ≤ 1048576)
def OpenSpec.upto (s : _root_.Go.ChangeSpec) : _root_.Go.OpenSpec := { _root_.Go.OpenSpec.ofChange s with cond := some uptoSmall }

/-- 'tracebooklaw31.MemoryOf', WHERE WHAT IT READS IS OF BULK AT MOST 1048576: true; the input reads as it did. -/
def memoryOfUptoRow : OpenClaim := { program := "ytgebmgahfpnjaaa", sum := "c68c40475c06b04556c08dca52ac49f5b1b4ea5c8032cf19515d2c2d1ae9f286", func := "tracebook/tracebooklaw31.MemoryOf", spec := "memoryOf", inPlace := ["internal/bytealg.IndexByteString"], unfollowed := true, recurses := true, apart := false, narrowed := true }
def MemoryOfUptoSaid : Prop := memoryOfUptoRow.holds Try.pinned (OpenSpec.upto memoryOfSpec)

/-- 'tracebooklaw31.MemoryChecks', WHERE WHAT IT READS IS OF BULK AT MOST 1048576: true; the input reads as it did. -/
def memoryChecksUptoRow : OpenClaim := { program := "ytgebmgahfpnjaaa", sum := "c68c40475c06b04556c08dca52ac49f5b1b4ea5c8032cf19515d2c2d1ae9f286", func := "tracebook/tracebooklaw31.MemoryChecks", spec := "memoryChecks", inPlace := ["internal/bytealg.IndexByteString"], unfollowed := true, recurses := true, apart := false, narrowed := true }
def MemoryChecksUptoSaid : Prop := memoryChecksUptoRow.holds Try.pinned (OpenSpec.upto memoryChecksSpec)

/-- 'tracebooklaw31.MemoryPeak', WHERE WHAT IT READS IS OF BULK AT MOST 1048576: true; the input reads as it did. -/
def memoryPeakUptoRow : OpenClaim := { program := "ytgebmgahfpnjaaa", sum := "c68c40475c06b04556c08dca52ac49f5b1b4ea5c8032cf19515d2c2d1ae9f286", func := "tracebook/tracebooklaw31.MemoryPeak", spec := "memoryPeak", inPlace := ["internal/bytealg.IndexByteString"], unfollowed := true, recurses := true, apart := false, narrowed := true }
def MemoryPeakUptoSaid : Prop := memoryPeakUptoRow.holds Try.pinned (OpenSpec.upto memoryPeakSpec)

/-- 'tracebooklaw31.MemoryEnds', WHERE WHAT IT READS IS OF BULK AT MOST 1048576: true; the input reads as it did. -/
def memoryEndsUptoRow : OpenClaim := { program := "ytgebmgahfpnjaaa", sum := "c68c40475c06b04556c08dca52ac49f5b1b4ea5c8032cf19515d2c2d1ae9f286", func := "tracebook/tracebooklaw31.MemoryEnds", spec := "memoryEnds", inPlace := ["internal/bytealg.IndexByteString"], unfollowed := true, recurses := true, apart := false, narrowed := true }
def MemoryEndsUptoSaid : Prop := memoryEndsUptoRow.holds Try.pinned (OpenSpec.upto memoryEndsSpec)

/-- 'tracebooklaw31.MemoryLater', WHERE WHAT IT READS IS OF BULK AT MOST 1048576: true; the input reads as it did. -/
def memoryLaterUptoRow : OpenClaim := { program := "ytgebmgahfpnjaaa", sum := "c68c40475c06b04556c08dca52ac49f5b1b4ea5c8032cf19515d2c2d1ae9f286", func := "tracebook/tracebooklaw31.MemoryLater", spec := "memoryLater", inPlace := ["internal/bytealg.IndexByteString"], unfollowed := true, recurses := true, apart := false, narrowed := true }
def MemoryLaterUptoSaid : Prop := memoryLaterUptoRow.holds Try.pinned (OpenSpec.upto memoryLaterSpec)

end Rows
end Go.Proofs.Ytgebmgahfpnjaaa
