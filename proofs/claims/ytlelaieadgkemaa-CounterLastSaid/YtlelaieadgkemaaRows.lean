/-
  No cell of these rows narrows 'for every input' (looked for: loops, veiled, ifaces, maps, wideKeys, modest, calm, conditions, laid).
  DERIVED. THE GIVEN ROWS OF THIS SEAT. 6 by the template 'for every input the law returns true; each argument reads behind the call as it read before'; 0 by the template 'total and deterministic' (their statements: YtlelaieadgkemaaTotals.lean).
  GIVEN WITH THE SEED: the statements are not yours to turn. If you find one false, say at which input.
  Laid BY PROGRAM, IN A SANDBOX (cutbox-rows.mjs): the forced cells as the released guide's own fill.sh prints them over the translation 5af06bac96d3c542… (all of the seat's roots in one cut). By AI agents, Wed Nov 11 2026. No macro, syntax, notation, axiom, sorry.
-/
import Derived.Test.YtlelaieadgkemaaChecked
import GoSem.Claim
import GoSem.ClaimJoined
import GoSem.ClaimMapViews
import Derived.JoinedTies
import Derived.KernelRfl
namespace Go.Proofs.Ytlelaieadgkemaa
/- THE CELL 'sum', in the pinned program and in every row, IS THE sha256 OF THE DUMP (.gsa) THAT YtlelaieadgkemaaProg.lean LOADS. Nothing in Lean hashes anything: it is a label: what it is worth is what the hold of that sum in a sandbox is worth. -/
noncomputable def Try.pinned : Pinned := { name := "ytlelaieadgkemaa", sum := "5af06bac96d3c54228ed814bc1b7bd897ee54f4f7c97538ff2136fb6a3599e42", checked := Try.checked }
namespace Rows
def none {H : Type} : Left H := { results := [], args := [] }

/-- 'tracebooklaw30.CounterFinds': WHATEVER THE INPUT: true; the input reads as it did. -/
def counterFindsSpec : ChangeSpec := { name := "counterFinds", fn := fun _ => fun
  | [d] => { results := [.lit (.bool true)], args := [d] }
  | _ => none }
def counterFindsRow : OpenClaim := { program := "ytlelaieadgkemaa", sum := "5af06bac96d3c54228ed814bc1b7bd897ee54f4f7c97538ff2136fb6a3599e42", func := "tracebook/tracebooklaw30.CounterFinds", spec := "counterFinds", inPlace := ["internal/bytealg.IndexByteString"], unfollowed := true, recurses := true, apart := false }
def CounterFindsSaid : Prop := counterFindsRow.holds Try.pinned (OpenSpec.ofChange counterFindsSpec)

/-- ITS FALSE NEIGHBOUR: 'it returns false'. Refute it at one input. -/
def counterFindsWrong : ChangeSpec := { name := "counterFinds", fn := fun _ => fun
  | [d] => { results := [.lit (.bool false)], args := [d] }
  | _ => none }
def CounterFindsWrongFalsely : Prop := counterFindsRow.holds Try.pinned (OpenSpec.ofChange counterFindsWrong)

/-- 'tracebooklaw30.CounterLast': WHATEVER THE INPUT: true; the input reads as it did. -/
def counterLastSpec : ChangeSpec := { name := "counterLast", fn := fun _ => fun
  | [d1, d2] => { results := [.lit (.bool true)], args := [d1, d2] }
  | _ => none }
def counterLastRow : OpenClaim := { program := "ytlelaieadgkemaa", sum := "5af06bac96d3c54228ed814bc1b7bd897ee54f4f7c97538ff2136fb6a3599e42", func := "tracebook/tracebooklaw30.CounterLast", spec := "counterLast", inPlace := ["internal/bytealg.IndexByteString"], unfollowed := true, recurses := true, apart := false }
def CounterLastSaid : Prop := counterLastRow.holds Try.pinned (OpenSpec.ofChange counterLastSpec)

/-- ITS FALSE NEIGHBOUR: 'it returns false'. Refute it at one input. -/
def counterLastWrong : ChangeSpec := { name := "counterLast", fn := fun _ => fun
  | [d1, d2] => { results := [.lit (.bool false)], args := [d1, d2] }
  | _ => none }
def CounterLastWrongFalsely : Prop := counterLastRow.holds Try.pinned (OpenSpec.ofChange counterLastWrong)

/-- 'tracebooklaw30.CounterChecks': WHATEVER THE INPUT: true; the input reads as it did. -/
def counterChecksSpec : ChangeSpec := { name := "counterChecks", fn := fun _ => fun
  | [d] => { results := [.lit (.bool true)], args := [d] }
  | _ => none }
def counterChecksRow : OpenClaim := { program := "ytlelaieadgkemaa", sum := "5af06bac96d3c54228ed814bc1b7bd897ee54f4f7c97538ff2136fb6a3599e42", func := "tracebook/tracebooklaw30.CounterChecks", spec := "counterChecks", inPlace := ["internal/bytealg.IndexByteString"], unfollowed := true, recurses := true, apart := false }
def CounterChecksSaid : Prop := counterChecksRow.holds Try.pinned (OpenSpec.ofChange counterChecksSpec)

/-- ITS FALSE NEIGHBOUR: 'it returns false'. Refute it at one input. -/
def counterChecksWrong : ChangeSpec := { name := "counterChecks", fn := fun _ => fun
  | [d] => { results := [.lit (.bool false)], args := [d] }
  | _ => none }
def CounterChecksWrongFalsely : Prop := counterChecksRow.holds Try.pinned (OpenSpec.ofChange counterChecksWrong)

/-- 'tracebooklaw30.CounterLooks': WHATEVER THE INPUT: true; the input reads as it did. -/
def counterLooksSpec : ChangeSpec := { name := "counterLooks", fn := fun _ => fun
  | [d1, d2, d3] => { results := [.lit (.bool true)], args := [d1, d2, d3] }
  | _ => none }
def counterLooksRow : OpenClaim := { program := "ytlelaieadgkemaa", sum := "5af06bac96d3c54228ed814bc1b7bd897ee54f4f7c97538ff2136fb6a3599e42", func := "tracebook/tracebooklaw30.CounterLooks", spec := "counterLooks", inPlace := ["internal/bytealg.IndexByteString"], unfollowed := true, recurses := true, apart := false }
def CounterLooksSaid : Prop := counterLooksRow.holds Try.pinned (OpenSpec.ofChange counterLooksSpec)

/-- ITS FALSE NEIGHBOUR: 'it returns false'. Refute it at one input. -/
def counterLooksWrong : ChangeSpec := { name := "counterLooks", fn := fun _ => fun
  | [d1, d2, d3] => { results := [.lit (.bool false)], args := [d1, d2, d3] }
  | _ => none }
def CounterLooksWrongFalsely : Prop := counterLooksRow.holds Try.pinned (OpenSpec.ofChange counterLooksWrong)

/-- 'tracebooklaw30.CounterSums': WHATEVER THE INPUT: true; the input reads as it did. -/
def counterSumsSpec : ChangeSpec := { name := "counterSums", fn := fun _ => fun
  | [d1, d2, d3] => { results := [.lit (.bool true)], args := [d1, d2, d3] }
  | _ => none }
def counterSumsRow : OpenClaim := { program := "ytlelaieadgkemaa", sum := "5af06bac96d3c54228ed814bc1b7bd897ee54f4f7c97538ff2136fb6a3599e42", func := "tracebook/tracebooklaw30.CounterSums", spec := "counterSums", inPlace := ["internal/bytealg.IndexByteString"], unfollowed := true, recurses := true, apart := false }
def CounterSumsSaid : Prop := counterSumsRow.holds Try.pinned (OpenSpec.ofChange counterSumsSpec)

/-- ITS FALSE NEIGHBOUR: 'it returns false'. Refute it at one input. -/
def counterSumsWrong : ChangeSpec := { name := "counterSums", fn := fun _ => fun
  | [d1, d2, d3] => { results := [.lit (.bool false)], args := [d1, d2, d3] }
  | _ => none }
def CounterSumsWrongFalsely : Prop := counterSumsRow.holds Try.pinned (OpenSpec.ofChange counterSumsWrong)

/-- 'tracebooklaw30.CounterParts': WHATEVER THE INPUT: true; the input reads as it did. -/
def counterPartsSpec : ChangeSpec := { name := "counterParts", fn := fun _ => fun
  | [d1, d2, d3] => { results := [.lit (.bool true)], args := [d1, d2, d3] }
  | _ => none }
def counterPartsRow : OpenClaim := { program := "ytlelaieadgkemaa", sum := "5af06bac96d3c54228ed814bc1b7bd897ee54f4f7c97538ff2136fb6a3599e42", func := "tracebook/tracebooklaw30.CounterParts", spec := "counterParts", inPlace := ["internal/bytealg.IndexByteString"], unfollowed := true, recurses := true, apart := false }
def CounterPartsSaid : Prop := counterPartsRow.holds Try.pinned (OpenSpec.ofChange counterPartsSpec)

/-- ITS FALSE NEIGHBOUR: 'it returns false'. Refute it at one input. -/
def counterPartsWrong : ChangeSpec := { name := "counterParts", fn := fun _ => fun
  | [d1, d2, d3] => { results := [.lit (.bool false)], args := [d1, d2, d3] }
  | _ => none }
def CounterPartsWrongFalsely : Prop := counterPartsRow.holds Try.pinned (OpenSpec.ofChange counterPartsWrong)

/- THE SECOND FORM. 'bulk': how many values and letters a reading holds, each counted each time it is reached (what is shared counts as often as it is met; a slice's spare places count too). A statement '..UptoSaid' is the law's where the arguments, and the package variables that the reading takes, are together of bulk at most 1048576: NARROWER than '..Said'. Prove '..Said' where nothing that the law and all that it calls make is longer than what came in: it says more and counts as full. Else prove '..UptoSaid'. A law counts once. -/
mutual
def uptoBulk {H : Type} : DataW H → Nat
  | .lit (.string bytes) => bytes.length + 1
  | .lit _ => 1
  | .nil => 1
  | .ptr d => uptoBulk d + 1
  | .slice elems spare => uptoBulkAll elems + uptoBulkAll spare + 1
  | .agg parts => uptoBulkAll parts + 1
  | .iface _ d => uptoBulk d + 1
  | .map entries => uptoBulkEntries entries + 1
  | .held _ => 1
def uptoBulkAll {H : Type} : List (DataW H) → Nat
  | [] => 0
  | d :: r => uptoBulk d + uptoBulkAll r
def uptoBulkEntries {H : Type} : List (Lit × DataW H) → Nat
  | [] => 0
  | x :: r => uptoBulkEntry x + uptoBulkEntries r
def uptoBulkEntry {H : Type} : Lit × DataW H → Nat
  | (.string bytes, d) => bytes.length + uptoBulk d + 1
  | (_, d) => uptoBulk d + 1
 end
def uptoSmall : (H : Type) → List (DataW H) → Bool := fun _ ds => decide (uptoBulkAll ds ≤ 1048576)
def OpenSpec.upto (s : _root_.Go.ChangeSpec) : _root_.Go.OpenSpec := { _root_.Go.OpenSpec.ofChange s with cond := some uptoSmall }

/-- 'tracebooklaw30.CounterFinds', WHERE WHAT IT READS IS OF BULK AT MOST 1048576: true; the input reads as it did. -/
def counterFindsUptoRow : OpenClaim := { program := "ytlelaieadgkemaa", sum := "5af06bac96d3c54228ed814bc1b7bd897ee54f4f7c97538ff2136fb6a3599e42", func := "tracebook/tracebooklaw30.CounterFinds", spec := "counterFinds", inPlace := ["internal/bytealg.IndexByteString"], unfollowed := true, recurses := true, apart := false, narrowed := true }
def CounterFindsUptoSaid : Prop := counterFindsUptoRow.holds Try.pinned (OpenSpec.upto counterFindsSpec)

/-- 'tracebooklaw30.CounterLast', WHERE WHAT IT READS IS OF BULK AT MOST 1048576: true; the input reads as it did. -/
def counterLastUptoRow : OpenClaim := { program := "ytlelaieadgkemaa", sum := "5af06bac96d3c54228ed814bc1b7bd897ee54f4f7c97538ff2136fb6a3599e42", func := "tracebook/tracebooklaw30.CounterLast", spec := "counterLast", inPlace := ["internal/bytealg.IndexByteString"], unfollowed := true, recurses := true, apart := false, narrowed := true }
def CounterLastUptoSaid : Prop := counterLastUptoRow.holds Try.pinned (OpenSpec.upto counterLastSpec)

/-- 'tracebooklaw30.CounterChecks', WHERE WHAT IT READS IS OF BULK AT MOST 1048576: true; the input reads as it did. -/
def counterChecksUptoRow : OpenClaim := { program := "ytlelaieadgkemaa", sum := "5af06bac96d3c54228ed814bc1b7bd897ee54f4f7c97538ff2136fb6a3599e42", func := "tracebook/tracebooklaw30.CounterChecks", spec := "counterChecks", inPlace := ["internal/bytealg.IndexByteString"], unfollowed := true, recurses := true, apart := false, narrowed := true }
def CounterChecksUptoSaid : Prop := counterChecksUptoRow.holds Try.pinned (OpenSpec.upto counterChecksSpec)

/-- 'tracebooklaw30.CounterLooks', WHERE WHAT IT READS IS OF BULK AT MOST 1048576: true; the input reads as it did. -/
def counterLooksUptoRow : OpenClaim := { program := "ytlelaieadgkemaa", sum := "5af06bac96d3c54228ed814bc1b7bd897ee54f4f7c97538ff2136fb6a3599e42", func := "tracebook/tracebooklaw30.CounterLooks", spec := "counterLooks", inPlace := ["internal/bytealg.IndexByteString"], unfollowed := true, recurses := true, apart := false, narrowed := true }
def CounterLooksUptoSaid : Prop := counterLooksUptoRow.holds Try.pinned (OpenSpec.upto counterLooksSpec)

/-- 'tracebooklaw30.CounterSums', WHERE WHAT IT READS IS OF BULK AT MOST 1048576: true; the input reads as it did. -/
def counterSumsUptoRow : OpenClaim := { program := "ytlelaieadgkemaa", sum := "5af06bac96d3c54228ed814bc1b7bd897ee54f4f7c97538ff2136fb6a3599e42", func := "tracebook/tracebooklaw30.CounterSums", spec := "counterSums", inPlace := ["internal/bytealg.IndexByteString"], unfollowed := true, recurses := true, apart := false, narrowed := true }
def CounterSumsUptoSaid : Prop := counterSumsUptoRow.holds Try.pinned (OpenSpec.upto counterSumsSpec)

/-- 'tracebooklaw30.CounterParts', WHERE WHAT IT READS IS OF BULK AT MOST 1048576: true; the input reads as it did. -/
def counterPartsUptoRow : OpenClaim := { program := "ytlelaieadgkemaa", sum := "5af06bac96d3c54228ed814bc1b7bd897ee54f4f7c97538ff2136fb6a3599e42", func := "tracebook/tracebooklaw30.CounterParts", spec := "counterParts", inPlace := ["internal/bytealg.IndexByteString"], unfollowed := true, recurses := true, apart := false, narrowed := true }
def CounterPartsUptoSaid : Prop := counterPartsUptoRow.holds Try.pinned (OpenSpec.upto counterPartsSpec)

end Rows
end Go.Proofs.Ytlelaieadgkemaa
