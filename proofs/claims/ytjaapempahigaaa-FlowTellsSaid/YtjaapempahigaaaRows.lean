/-
  No cell of these rows narrows 'for every input' (looked for: loops, veiled, ifaces, maps, wideKeys, modest, calm, conditions, laid).
  DERIVED. THE GIVEN ROWS OF THIS SEAT. 9 by the template 'for every input the law returns true; each argument reads behind the call as it read before'; 0 by the template 'total and deterministic' (their statements: YtjaapempahigaaaTotals.lean).
  GIVEN WITH THE SEED: the statements are not yours to turn. If you find one false, say at which input.
  Laid BY PROGRAM, IN A SANDBOX (cutbox-rows.mjs): the forced cells as the released guide's own fill.sh prints them over the translation cc92211a62cf380e… (all of the seat's roots in one cut). By AI agents, Wed Nov 11 2026. No macro, syntax, notation, axiom, sorry.
-/
import Derived.Test.YtjaapempahigaaaChecked
import GoSem.Claim
import GoSem.ClaimJoined
import GoSem.ClaimMapViews
import Derived.JoinedTies
import Derived.KernelRfl
namespace Go.Proofs.Ytjaapempahigaaa
/- THE CELL 'sum', in the pinned program and in every row, IS THE sha256 OF THE DUMP (.gsa) THAT YtjaapempahigaaaProg.lean LOADS. Nothing in Lean hashes anything: it is a label: what it is worth is what the hold of that sum in a sandbox is worth. -/
noncomputable def Try.pinned : Pinned := { name := "ytjaapempahigaaa", sum := "cc92211a62cf380e796b56df7bbf7b707fae4847fe9c683486f0fac01fd7a8c2", checked := Try.checked }
namespace Rows
def none {H : Type} : Left H := { results := [], args := [] }

/-- 'muntinlaw03.FileOverlaps': WHATEVER THE INPUT: true; the input reads as it did. -/
def fileOverlapsSpec : ChangeSpec := { name := "fileOverlaps", fn := fun _ => fun
  | [d1, d2, d3] => { results := [.lit (.bool true)], args := [d1, d2, d3] }
  | _ => none }
def fileOverlapsRow : OpenClaim := { program := "ytjaapempahigaaa", sum := "cc92211a62cf380e796b56df7bbf7b707fae4847fe9c683486f0fac01fd7a8c2", func := "muntin/muntinlaw03.FileOverlaps", spec := "fileOverlaps", unfollowed := true, recurses := true, apart := false }
def FileOverlapsSaid : Prop := fileOverlapsRow.holds Try.pinned (OpenSpec.ofChange fileOverlapsSpec)

/-- ITS FALSE NEIGHBOUR: 'it returns false'. Refute it at one input. -/
def fileOverlapsWrong : ChangeSpec := { name := "fileOverlaps", fn := fun _ => fun
  | [d1, d2, d3] => { results := [.lit (.bool false)], args := [d1, d2, d3] }
  | _ => none }
def FileOverlapsWrongFalsely : Prop := fileOverlapsRow.holds Try.pinned (OpenSpec.ofChange fileOverlapsWrong)

/-- 'muntinlaw03.FileTurns': WHATEVER THE INPUT: true; the input reads as it did. -/
def fileTurnsSpec : ChangeSpec := { name := "fileTurns", fn := fun _ => fun
  | [d1, d2] => { results := [.lit (.bool true)], args := [d1, d2] }
  | _ => none }
def fileTurnsRow : OpenClaim := { program := "ytjaapempahigaaa", sum := "cc92211a62cf380e796b56df7bbf7b707fae4847fe9c683486f0fac01fd7a8c2", func := "muntin/muntinlaw03.FileTurns", spec := "fileTurns", unfollowed := true, recurses := true, apart := false }
def FileTurnsSaid : Prop := fileTurnsRow.holds Try.pinned (OpenSpec.ofChange fileTurnsSpec)

/-- ITS FALSE NEIGHBOUR: 'it returns false'. Refute it at one input. -/
def fileTurnsWrong : ChangeSpec := { name := "fileTurns", fn := fun _ => fun
  | [d1, d2] => { results := [.lit (.bool false)], args := [d1, d2] }
  | _ => none }
def FileTurnsWrongFalsely : Prop := fileTurnsRow.holds Try.pinned (OpenSpec.ofChange fileTurnsWrong)

/-- 'muntinlaw03.FilePlays': WHATEVER THE INPUT: true; the input reads as it did. -/
def filePlaysSpec : ChangeSpec := { name := "filePlays", fn := fun _ => fun
  | [d1, d2] => { results := [.lit (.bool true)], args := [d1, d2] }
  | _ => none }
def filePlaysRow : OpenClaim := { program := "ytjaapempahigaaa", sum := "cc92211a62cf380e796b56df7bbf7b707fae4847fe9c683486f0fac01fd7a8c2", func := "muntin/muntinlaw03.FilePlays", spec := "filePlays", unfollowed := true, recurses := true, apart := false }
def FilePlaysSaid : Prop := filePlaysRow.holds Try.pinned (OpenSpec.ofChange filePlaysSpec)

/-- ITS FALSE NEIGHBOUR: 'it returns false'. Refute it at one input. -/
def filePlaysWrong : ChangeSpec := { name := "filePlays", fn := fun _ => fun
  | [d1, d2] => { results := [.lit (.bool false)], args := [d1, d2] }
  | _ => none }
def FilePlaysWrongFalsely : Prop := filePlaysRow.holds Try.pinned (OpenSpec.ofChange filePlaysWrong)

/-- 'muntinlaw03.FileNone': WHATEVER THE INPUT: true; the input reads as it did. -/
def fileNoneSpec : ChangeSpec := { name := "fileNone", fn := fun _ => fun
  | [d1, d2] => { results := [.lit (.bool true)], args := [d1, d2] }
  | _ => none }
def fileNoneRow : OpenClaim := { program := "ytjaapempahigaaa", sum := "cc92211a62cf380e796b56df7bbf7b707fae4847fe9c683486f0fac01fd7a8c2", func := "muntin/muntinlaw03.FileNone", spec := "fileNone", unfollowed := true, recurses := true, apart := false }
def FileNoneSaid : Prop := fileNoneRow.holds Try.pinned (OpenSpec.ofChange fileNoneSpec)

/-- ITS FALSE NEIGHBOUR: 'it returns false'. Refute it at one input. -/
def fileNoneWrong : ChangeSpec := { name := "fileNone", fn := fun _ => fun
  | [d1, d2] => { results := [.lit (.bool false)], args := [d1, d2] }
  | _ => none }
def FileNoneWrongFalsely : Prop := fileNoneRow.holds Try.pinned (OpenSpec.ofChange fileNoneWrong)

/-- 'muntinlaw15.FlowTells': WHATEVER THE INPUT: true; the input reads as it did. -/
def flowTellsSpec : ChangeSpec := { name := "flowTells", fn := fun _ => fun
  | [d1, d2] => { results := [.lit (.bool true)], args := [d1, d2] }
  | _ => none }
def flowTellsRow : OpenClaim := { program := "ytjaapempahigaaa", sum := "cc92211a62cf380e796b56df7bbf7b707fae4847fe9c683486f0fac01fd7a8c2", func := "muntin/muntinlaw15.FlowTells", spec := "flowTells", inPlace := ["slices.overlaps[int]"], unfollowed := true, recurses := true, apart := false }
def FlowTellsSaid : Prop := flowTellsRow.holds Try.pinned (OpenSpec.ofChange flowTellsSpec)

/-- ITS FALSE NEIGHBOUR: 'it returns false'. Refute it at one input. -/
def flowTellsWrong : ChangeSpec := { name := "flowTells", fn := fun _ => fun
  | [d1, d2] => { results := [.lit (.bool false)], args := [d1, d2] }
  | _ => none }
def FlowTellsWrongFalsely : Prop := flowTellsRow.holds Try.pinned (OpenSpec.ofChange flowTellsWrong)

/-- 'muntinlaw15.FlowOrder': WHATEVER THE INPUT: true; the input reads as it did. -/
def flowOrderSpec : ChangeSpec := { name := "flowOrder", fn := fun _ => fun
  | [d] => { results := [.lit (.bool true)], args := [d] }
  | _ => none }
def flowOrderRow : OpenClaim := { program := "ytjaapempahigaaa", sum := "cc92211a62cf380e796b56df7bbf7b707fae4847fe9c683486f0fac01fd7a8c2", func := "muntin/muntinlaw15.FlowOrder", spec := "flowOrder", inPlace := ["slices.overlaps[int]"], unfollowed := true, recurses := true, apart := false }
def FlowOrderSaid : Prop := flowOrderRow.holds Try.pinned (OpenSpec.ofChange flowOrderSpec)

/-- ITS FALSE NEIGHBOUR: 'it returns false'. Refute it at one input. -/
def flowOrderWrong : ChangeSpec := { name := "flowOrder", fn := fun _ => fun
  | [d] => { results := [.lit (.bool false)], args := [d] }
  | _ => none }
def FlowOrderWrongFalsely : Prop := flowOrderRow.holds Try.pinned (OpenSpec.ofChange flowOrderWrong)

/-- 'muntinlaw15.FlowWays': WHATEVER THE INPUT: true; the input reads as it did. -/
def flowWaysSpec : ChangeSpec := { name := "flowWays", fn := fun _ => fun
  | [d1, d2] => { results := [.lit (.bool true)], args := [d1, d2] }
  | _ => none }
def flowWaysRow : OpenClaim := { program := "ytjaapempahigaaa", sum := "cc92211a62cf380e796b56df7bbf7b707fae4847fe9c683486f0fac01fd7a8c2", func := "muntin/muntinlaw15.FlowWays", spec := "flowWays", inPlace := ["slices.overlaps[int]"], unfollowed := true, recurses := true, apart := false }
def FlowWaysSaid : Prop := flowWaysRow.holds Try.pinned (OpenSpec.ofChange flowWaysSpec)

/-- ITS FALSE NEIGHBOUR: 'it returns false'. Refute it at one input. -/
def flowWaysWrong : ChangeSpec := { name := "flowWays", fn := fun _ => fun
  | [d1, d2] => { results := [.lit (.bool false)], args := [d1, d2] }
  | _ => none }
def FlowWaysWrongFalsely : Prop := flowWaysRow.holds Try.pinned (OpenSpec.ofChange flowWaysWrong)

/-- 'muntinlaw15.FlowLess': WHATEVER THE INPUT: true; the input reads as it did. -/
def flowLessSpec : ChangeSpec := { name := "flowLess", fn := fun _ => fun
  | [d1, d2] => { results := [.lit (.bool true)], args := [d1, d2] }
  | _ => none }
def flowLessRow : OpenClaim := { program := "ytjaapempahigaaa", sum := "cc92211a62cf380e796b56df7bbf7b707fae4847fe9c683486f0fac01fd7a8c2", func := "muntin/muntinlaw15.FlowLess", spec := "flowLess", inPlace := ["slices.overlaps[int]"], unfollowed := true, recurses := true, apart := false }
def FlowLessSaid : Prop := flowLessRow.holds Try.pinned (OpenSpec.ofChange flowLessSpec)

/-- ITS FALSE NEIGHBOUR: 'it returns false'. Refute it at one input. -/
def flowLessWrong : ChangeSpec := { name := "flowLess", fn := fun _ => fun
  | [d1, d2] => { results := [.lit (.bool false)], args := [d1, d2] }
  | _ => none }
def FlowLessWrongFalsely : Prop := flowLessRow.holds Try.pinned (OpenSpec.ofChange flowLessWrong)

/-- 'muntinlaw15.FlowCuts': WHATEVER THE INPUT: true; the input reads as it did. -/
def flowCutsSpec : ChangeSpec := { name := "flowCuts", fn := fun _ => fun
  | [d1, d2] => { results := [.lit (.bool true)], args := [d1, d2] }
  | _ => none }
def flowCutsRow : OpenClaim := { program := "ytjaapempahigaaa", sum := "cc92211a62cf380e796b56df7bbf7b707fae4847fe9c683486f0fac01fd7a8c2", func := "muntin/muntinlaw15.FlowCuts", spec := "flowCuts", inPlace := ["slices.overlaps[int]"], unfollowed := true, recurses := true, apart := false }
def FlowCutsSaid : Prop := flowCutsRow.holds Try.pinned (OpenSpec.ofChange flowCutsSpec)

/-- ITS FALSE NEIGHBOUR: 'it returns false'. Refute it at one input. -/
def flowCutsWrong : ChangeSpec := { name := "flowCuts", fn := fun _ => fun
  | [d1, d2] => { results := [.lit (.bool false)], args := [d1, d2] }
  | _ => none }
def FlowCutsWrongFalsely : Prop := flowCutsRow.holds Try.pinned (OpenSpec.ofChange flowCutsWrong)

/- THE SECOND FORM. 'bulk': how many values and letters a reading holds, each counted each time it is reached (what is shared counts as often as it is met; a slice's spare places count too). A statement '..UptoSaid' is the law's where the arguments, and the package variables that the reading takes, are together of bulk at most 1048576: NARROWER than '..Said'. Prove '..Said' where nothing that the law and all that it calls make is longer than what came in: it says more and counts as full. Else prove '..UptoSaid'. A law counts once. -/
mutual
def uptoBulk {H : Type} : DataW H → Nat
  | .lit (.string bytes) => bytes.length + 1
  | .lit _ => 1
  | .nil => 1
  | .ptr d => uptoBulk d + 1
  | .slice elems spare => uptoBulkAll elems + uptoBulkAll spare + 1
  | .agg parts => uptoBulkAll parts + 1
  | .iface _ d => uptoBulk d + 1
  | .map entries => uptoBulkEntries entries + 1
  | .held _ => 1
def uptoBulkAll {H : Type} : List (DataW H) → Nat
  | [] => 0
  | d :: r => uptoBulk d + uptoBulkAll r
def uptoBulkEntries {H : Type} : List (Lit × DataW H) → Nat
  | [] => 0
  | x :: r => uptoBulkEntry x + uptoBulkEntries r
def uptoBulkEntry {H : Type} : Lit × DataW H → Nat
  | (.string bytes, d) => bytes.length + uptoBulk d + 1
  | (_, d) => uptoBulk d + 1
 end
def uptoSmall : (H : Type) → List (DataW H) → Bool := fun _ ds => decide (uptoBulkAll ds ≤ 1048576)
def OpenSpec.upto (s : _root_.Go.ChangeSpec) : _root_.Go.OpenSpec := { _root_.Go.OpenSpec.ofChange s with cond := some uptoSmall }

/-- 'muntinlaw03.FileOverlaps', WHERE WHAT IT READS IS OF BULK AT MOST 1048576: true; the input reads as it did. -/
def fileOverlapsUptoRow : OpenClaim := { program := "ytjaapempahigaaa", sum := "cc92211a62cf380e796b56df7bbf7b707fae4847fe9c683486f0fac01fd7a8c2", func := "muntin/muntinlaw03.FileOverlaps", spec := "fileOverlaps", unfollowed := true, recurses := true, apart := false, narrowed := true }
def FileOverlapsUptoSaid : Prop := fileOverlapsUptoRow.holds Try.pinned (OpenSpec.upto fileOverlapsSpec)

/-- 'muntinlaw03.FileTurns', WHERE WHAT IT READS IS OF BULK AT MOST 1048576: true; the input reads as it did. -/
def fileTurnsUptoRow : OpenClaim := { program := "ytjaapempahigaaa", sum := "cc92211a62cf380e796b56df7bbf7b707fae4847fe9c683486f0fac01fd7a8c2", func := "muntin/muntinlaw03.FileTurns", spec := "fileTurns", unfollowed := true, recurses := true, apart := false, narrowed := true }
def FileTurnsUptoSaid : Prop := fileTurnsUptoRow.holds Try.pinned (OpenSpec.upto fileTurnsSpec)

/-- 'muntinlaw03.FilePlays', WHERE WHAT IT READS IS OF BULK AT MOST 1048576: true; the input reads as it did. -/
def filePlaysUptoRow : OpenClaim := { program := "ytjaapempahigaaa", sum := "cc92211a62cf380e796b56df7bbf7b707fae4847fe9c683486f0fac01fd7a8c2", func := "muntin/muntinlaw03.FilePlays", spec := "filePlays", unfollowed := true, recurses := true, apart := false, narrowed := true }
def FilePlaysUptoSaid : Prop := filePlaysUptoRow.holds Try.pinned (OpenSpec.upto filePlaysSpec)

/-- 'muntinlaw03.FileNone', WHERE WHAT IT READS IS OF BULK AT MOST 1048576: true; the input reads as it did. -/
def fileNoneUptoRow : OpenClaim := { program := "ytjaapempahigaaa", sum := "cc92211a62cf380e796b56df7bbf7b707fae4847fe9c683486f0fac01fd7a8c2", func := "muntin/muntinlaw03.FileNone", spec := "fileNone", unfollowed := true, recurses := true, apart := false, narrowed := true }
def FileNoneUptoSaid : Prop := fileNoneUptoRow.holds Try.pinned (OpenSpec.upto fileNoneSpec)

/-- 'muntinlaw15.FlowTells', WHERE WHAT IT READS IS OF BULK AT MOST 1048576: true; the input reads as it did. -/
def flowTellsUptoRow : OpenClaim := { program := "ytjaapempahigaaa", sum := "cc92211a62cf380e796b56df7bbf7b707fae4847fe9c683486f0fac01fd7a8c2", func := "muntin/muntinlaw15.FlowTells", spec := "flowTells", inPlace := ["slices.overlaps[int]"], unfollowed := true, recurses := true, apart := false, narrowed := true }
def FlowTellsUptoSaid : Prop := flowTellsUptoRow.holds Try.pinned (OpenSpec.upto flowTellsSpec)

/-- 'muntinlaw15.FlowOrder', WHERE WHAT IT READS IS OF BULK AT MOST 1048576: true; the input reads as it did. -/
def flowOrderUptoRow : OpenClaim := { program := "ytjaapempahigaaa", sum := "cc92211a62cf380e796b56df7bbf7b707fae4847fe9c683486f0fac01fd7a8c2", func := "muntin/muntinlaw15.FlowOrder", spec := "flowOrder", inPlace := ["slices.overlaps[int]"], unfollowed := true, recurses := true, apart := false, narrowed := true }
def FlowOrderUptoSaid : Prop := flowOrderUptoRow.holds Try.pinned (OpenSpec.upto flowOrderSpec)

/-- 'muntinlaw15.FlowWays', WHERE WHAT IT READS IS OF BULK AT MOST 1048576: true; the input reads as it did. -/
def flowWaysUptoRow : OpenClaim := { program := "ytjaapempahigaaa", sum := "cc92211a62cf380e796b56df7bbf7b707fae4847fe9c683486f0fac01fd7a8c2", func := "muntin/muntinlaw15.FlowWays", spec := "flowWays", inPlace := ["slices.overlaps[int]"], unfollowed := true, recurses := true, apart := false, narrowed := true }
def FlowWaysUptoSaid : Prop := flowWaysUptoRow.holds Try.pinned (OpenSpec.upto flowWaysSpec)

/-- 'muntinlaw15.FlowLess', WHERE WHAT IT READS IS OF BULK AT MOST 1048576: true; the input reads as it did. -/
def flowLessUptoRow : OpenClaim := { program := "ytjaapempahigaaa", sum := "cc92211a62cf380e796b56df7bbf7b707fae4847fe9c683486f0fac01fd7a8c2", func := "muntin/muntinlaw15.FlowLess", spec := "flowLess", inPlace := ["slices.overlaps[int]"], unfollowed := true, recurses := true, apart := false, narrowed := true }
def FlowLessUptoSaid : Prop := flowLessUptoRow.holds Try.pinned (OpenSpec.upto flowLessSpec)

/-- 'muntinlaw15.FlowCuts', WHERE WHAT IT READS IS OF BULK AT MOST 1048576: true; the input reads as it did. -/
def flowCutsUptoRow : OpenClaim := { program := "ytjaapempahigaaa", sum := "cc92211a62cf380e796b56df7bbf7b707fae4847fe9c683486f0fac01fd7a8c2", func := "muntin/muntinlaw15.FlowCuts", spec := "flowCuts", inPlace := ["slices.overlaps[int]"], unfollowed := true, recurses := true, apart := false, narrowed := true }
def FlowCutsUptoSaid : Prop := flowCutsUptoRow.holds Try.pinned (OpenSpec.upto flowCutsSpec)

end Rows
end Go.Proofs.Ytjaapempahigaaa
