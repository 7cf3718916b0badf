/-
  No cell of these rows narrows 'for every input' (looked for: loops, veiled, ifaces, maps, wideKeys, modest, calm, conditions, laid).
  DERIVED. THE GIVEN ROWS OF THIS SEAT. 4 by the template 'for every input the law returns true; each argument reads behind the call as it read before'; 0 by the template 'total and deterministic' (their statements: YtccgdcmgjdhikaaGreatTotals.lean).
  GIVEN WITH THE SEED: the statements are not yours to turn. If you find one false, say at which input.
  Laid BY PROGRAM, IN A SANDBOX (cutbox-rows.mjs): the forced cells as the released guide's own fill.sh prints them over the translation 10c2b29547b73685… (all of the seat's roots in one cut). By AI agents, Wed Nov 11 2026. No macro, syntax, notation, axiom, sorry.
-/
import Derived.Test.YtccgdcmgjdhikaaGreatChecked
import GoSem.Claim
import GoSem.ClaimJoined
import GoSem.ClaimMapViews
import Derived.JoinedTies
import Derived.KernelRfl
namespace Go.Proofs.YtccgdcmgjdhikaaGreat
/- THE CELL 'sum', in the pinned program and in every row, IS THE sha256 OF THE DUMP (.gsa) THAT YtccgdcmgjdhikaaGreatProg.lean LOADS. Nothing in Lean hashes anything: it is a label: what it is worth is what the hold of that sum in a sandbox is worth. -/
noncomputable def Tryz.pinned : Pinned := { name := "ytccgdcmgjdhikaagreat", sum := "10c2b29547b736855545b0d08066509310be07ffa0252c4d38d09fb74f2d98e0", checked := Tryz.checked }
namespace Rows
def none {H : Type} : Left H := { results := [], args := [] }

/-- 'tracebooklaw47.WaitChains': WHATEVER THE INPUT: true; the input reads as it did. -/
def waitChainsSpec : ChangeSpec := { name := "waitChains", fn := fun _ => fun
  | [d1, d2, d3] => { results := [.lit (.bool true)], args := [d1, d2, d3] }
  | _ => none }
def waitChainsRow : OpenClaim := { program := "ytccgdcmgjdhikaagreat", sum := "10c2b29547b736855545b0d08066509310be07ffa0252c4d38d09fb74f2d98e0", func := "tracebook/tracebooklaw47.WaitChains", spec := "waitChains", inPlace := ["internal/bytealg.IndexByteString", "slices.overlaps[[2]int]"], unfollowed := true, recurses := true, apart := false }
def WaitChainsSaid : Prop := waitChainsRow.holds Tryz.pinned (OpenSpec.ofChange waitChainsSpec)

/-- ITS FALSE NEIGHBOUR: 'it returns false'. Refute it at one input. -/
def waitChainsWrong : ChangeSpec := { name := "waitChains", fn := fun _ => fun
  | [d1, d2, d3] => { results := [.lit (.bool false)], args := [d1, d2, d3] }
  | _ => none }
def WaitChainsWrongFalsely : Prop := waitChainsRow.holds Tryz.pinned (OpenSpec.ofChange waitChainsWrong)

/-- 'tracebooklaw47.WaitCircles': WHATEVER THE INPUT: true; the input reads as it did. -/
def waitCirclesSpec : ChangeSpec := { name := "waitCircles", fn := fun _ => fun
  | [d1, d2] => { results := [.lit (.bool true)], args := [d1, d2] }
  | _ => none }
def waitCirclesRow : OpenClaim := { program := "ytccgdcmgjdhikaagreat", sum := "10c2b29547b736855545b0d08066509310be07ffa0252c4d38d09fb74f2d98e0", func := "tracebook/tracebooklaw47.WaitCircles", spec := "waitCircles", inPlace := ["internal/bytealg.IndexByteString", "slices.overlaps[[2]int]"], unfollowed := true, recurses := true, apart := false }
def WaitCirclesSaid : Prop := waitCirclesRow.holds Tryz.pinned (OpenSpec.ofChange waitCirclesSpec)

/-- ITS FALSE NEIGHBOUR: 'it returns false'. Refute it at one input. -/
def waitCirclesWrong : ChangeSpec := { name := "waitCircles", fn := fun _ => fun
  | [d1, d2] => { results := [.lit (.bool false)], args := [d1, d2] }
  | _ => none }
def WaitCirclesWrongFalsely : Prop := waitCirclesRow.holds Tryz.pinned (OpenSpec.ofChange waitCirclesWrong)

/-- 'tracebooklaw47.WaitBlames': WHATEVER THE INPUT: true; the input reads as it did. -/
def waitBlamesSpec : ChangeSpec := { name := "waitBlames", fn := fun _ => fun
  | [d1, d2, d3] => { results := [.lit (.bool true)], args := [d1, d2, d3] }
  | _ => none }
def waitBlamesRow : OpenClaim := { program := "ytccgdcmgjdhikaagreat", sum := "10c2b29547b736855545b0d08066509310be07ffa0252c4d38d09fb74f2d98e0", func := "tracebook/tracebooklaw47.WaitBlames", spec := "waitBlames", inPlace := ["internal/bytealg.IndexByteString", "slices.overlaps[[2]int]"], unfollowed := true, recurses := true, apart := false }
def WaitBlamesSaid : Prop := waitBlamesRow.holds Tryz.pinned (OpenSpec.ofChange waitBlamesSpec)

/-- ITS FALSE NEIGHBOUR: 'it returns false'. Refute it at one input. -/
def waitBlamesWrong : ChangeSpec := { name := "waitBlames", fn := fun _ => fun
  | [d1, d2, d3] => { results := [.lit (.bool false)], args := [d1, d2, d3] }
  | _ => none }
def WaitBlamesWrongFalsely : Prop := waitBlamesRow.holds Tryz.pinned (OpenSpec.ofChange waitBlamesWrong)

/-- 'tracebooklaw47.WaitTotals': WHATEVER THE INPUT: true; the input reads as it did. -/
def waitTotalsSpec : ChangeSpec := { name := "waitTotals", fn := fun _ => fun
  | [d1, d2, d3] => { results := [.lit (.bool true)], args := [d1, d2, d3] }
  | _ => none }
def waitTotalsRow : OpenClaim := { program := "ytccgdcmgjdhikaagreat", sum := "10c2b29547b736855545b0d08066509310be07ffa0252c4d38d09fb74f2d98e0", func := "tracebook/tracebooklaw47.WaitTotals", spec := "waitTotals", inPlace := ["internal/bytealg.IndexByteString", "slices.overlaps[[2]int]"], unfollowed := true, recurses := true, apart := false }
def WaitTotalsSaid : Prop := waitTotalsRow.holds Tryz.pinned (OpenSpec.ofChange waitTotalsSpec)

/-- ITS FALSE NEIGHBOUR: 'it returns false'. Refute it at one input. -/
def waitTotalsWrong : ChangeSpec := { name := "waitTotals", fn := fun _ => fun
  | [d1, d2, d3] => { results := [.lit (.bool false)], args := [d1, d2, d3] }
  | _ => none }
def WaitTotalsWrongFalsely : Prop := waitTotalsRow.holds Tryz.pinned (OpenSpec.ofChange waitTotalsWrong)

/- THE SECOND FORM. 'bulk': how many values and letters a reading holds, each counted each time it is reached (what is shared counts as often as it is met; a slice's spare places count too). A statement '..UptoSaid' is the law's where the arguments, and the package variables that the reading takes, are together of bulk at most 1048576: NARROWER than '..Said'. Prove '..Said' where nothing that the law and all that it calls make is longer than what came in: it says more and counts as full. Else prove '..UptoSaid'. A law counts once. -/
mutual
def uptoBulk {H : Type} : DataW H → Nat
  | .lit (.string bytes) => bytes.length + 1
  | .lit _ => 1
  | .nil => 1
  | .ptr d => uptoBulk d + 1
  | .slice elems spare => uptoBulkAll elems + uptoBulkAll spare + 1
  | .agg parts => uptoBulkAll parts + 1
  | .iface _ d => uptoBulk d + 1
  | .map entries => uptoBulkEntries entries + 1
  | .held _ => 1
def uptoBulkAll {H : Type} : List (DataW H) → Nat
  | [] => 0
  | d :: r => uptoBulk d + uptoBulkAll r
def uptoBulkEntries {H : Type} : List (Lit × DataW H) → Nat
  | [] => 0
  | x :: r => uptoBulkEntry x + uptoBulkEntries r
def uptoBulkEntry {H : Type} : Lit × DataW H → Nat
  | (.string bytes, d) => bytes.length + uptoBulk d + 1
  | (_, d) => uptoBulk d + 1
 end
def uptoSmall : (H : Type) → List (DataW H) → Bool := fun _ ds => decide (uptoBulkAll ds ≤ 1048576)
def OpenSpec.upto (s : _root_.Go.ChangeSpec) : _root_.Go.OpenSpec := { _root_.Go.OpenSpec.ofChange s with cond := some uptoSmall }

/-- 'tracebooklaw47.WaitChains', WHERE WHAT IT READS IS OF BULK AT MOST 1048576: true; the input reads as it did. -/
def waitChainsUptoRow : OpenClaim := { program := "ytccgdcmgjdhikaagreat", sum := "10c2b29547b736855545b0d08066509310be07ffa0252c4d38d09fb74f2d98e0", func := "tracebook/tracebooklaw47.WaitChains", spec := "waitChains", inPlace := ["internal/bytealg.IndexByteString", "slices.overlaps[[2]int]"], unfollowed := true, recurses := true, apart := false, narrowed := true }
def WaitChainsUptoSaid : Prop := waitChainsUptoRow.holds Tryz.pinned (OpenSpec.upto waitChainsSpec)

/-- 'tracebooklaw47.WaitCircles', WHERE WHAT IT READS IS OF BULK AT MOST 1048576: true; the input reads as it did. -/
def waitCirclesUptoRow : OpenClaim := { program := "ytccgdcmgjdhikaagreat", sum := "10c2b29547b736855545b0d08066509310be07ffa0252c4d38d09fb74f2d98e0", func := "tracebook/tracebooklaw47.WaitCircles", spec := "waitCircles", inPlace := ["internal/bytealg.IndexByteString", "slices.overlaps[[2]int]"], unfollowed := true, recurses := true, apart := false, narrowed := true }
def WaitCirclesUptoSaid : Prop := waitCirclesUptoRow.holds Tryz.pinned (OpenSpec.upto waitCirclesSpec)

/-- 'tracebooklaw47.WaitBlames', WHERE WHAT IT READS IS OF BULK AT MOST 1048576: true; the input reads as it did. -/
def waitBlamesUptoRow : OpenClaim := { program := "ytccgdcmgjdhikaagreat", sum := "10c2b29547b736855545b0d08066509310be07ffa0252c4d38d09fb74f2d98e0", func := "tracebook/tracebooklaw47.WaitBlames", spec := "waitBlames", inPlace := ["internal/bytealg.IndexByteString", "slices.overlaps[[2]int]"], unfollowed := true, recurses := true, apart := false, narrowed := true }
def WaitBlamesUptoSaid : Prop := waitBlamesUptoRow.holds Tryz.pinned (OpenSpec.upto waitBlamesSpec)

/-- 'tracebooklaw47.WaitTotals', WHERE WHAT IT READS IS OF BULK AT MOST 1048576: true; the input reads as it did. -/
def waitTotalsUptoRow : OpenClaim := { program := "ytccgdcmgjdhikaagreat", sum := "10c2b29547b736855545b0d08066509310be07ffa0252c4d38d09fb74f2d98e0", func := "tracebook/tracebooklaw47.WaitTotals", spec := "waitTotals", inPlace := ["internal/bytealg.IndexByteString", "slices.overlaps[[2]int]"], unfollowed := true, recurses := true, apart := false, narrowed := true }
def WaitTotalsUptoSaid : Prop := waitTotalsUptoRow.holds Tryz.pinned (OpenSpec.upto waitTotalsSpec)

end Rows
end Go.Proofs.YtccgdcmgjdhikaaGreat
