/-
  No cell of these rows narrows 'for every input' (looked for: loops, veiled, ifaces, maps, wideKeys, modest, calm, conditions, laid).
  DERIVED. THE GIVEN ROWS OF THIS SEAT. 15 by the template 'for every input the law returns true; each argument reads behind the call as it read before'; 0 by the template 'total and deterministic' (their statements: YtifcgimpgbeocaaTotals.lean).
  GIVEN WITH THE SEED: the statements are not yours to turn. If you find one false, say at which input.
  Laid BY PROGRAM, IN A SANDBOX (cutbox-rows.mjs): the forced cells as the released guide's own fill.sh prints them over the translation a8070a4535a8816b… (all of the seat's roots in one cut). By AI agents, Wed Nov 11 2026. No macro, syntax, notation, axiom, sorry.
-/
import Derived.Test.YtifcgimpgbeocaaChecked
import GoSem.Claim
import GoSem.ClaimJoined
import GoSem.ClaimMapViews
import Derived.JoinedTies
import Derived.KernelRfl
namespace Go.Proofs.Ytifcgimpgbeocaa
/- THE CELL 'sum', in the pinned program and in every row, IS THE sha256 OF THE DUMP (.gsa) THAT YtifcgimpgbeocaaProg.lean LOADS. Nothing in Lean hashes anything: it is a label: what it is worth is what the hold of that sum in a sandbox is worth. -/
noncomputable def Try.pinned : Pinned := { name := "ytifcgimpgbeocaa", sum := "a8070a4535a8816b0b530d058cb3274ed5267951d19ab564a492cc873fa9ee87", checked := Try.checked }
namespace Rows
def none {H : Type} : Left H := { results := [], args := [] }

/-- 'pliantlaw14.FilesAgain': WHATEVER THE INPUT: true; the input reads as it did. -/
def filesAgainSpec : ChangeSpec := { name := "filesAgain", fn := fun _ => fun
  | [d] => { results := [.lit (.bool true)], args := [d] }
  | _ => none }
def filesAgainRow : OpenClaim := { program := "ytifcgimpgbeocaa", sum := "a8070a4535a8816b0b530d058cb3274ed5267951d19ab564a492cc873fa9ee87", func := "pliant/pliantlaw14.FilesAgain", spec := "filesAgain", inPlace := ["slices.overlaps[pliant/api.Record]", "internal/abi.NoEscape", "internal/bytealg.MakeNoZero"], unfollowed := true, recurses := true, apart := false }
def FilesAgainSaid : Prop := filesAgainRow.holds Try.pinned (OpenSpec.ofChange filesAgainSpec)

/-- ITS FALSE NEIGHBOUR: 'it returns false'. Refute it at one input. -/
def filesAgainWrong : ChangeSpec := { name := "filesAgain", fn := fun _ => fun
  | [d] => { results := [.lit (.bool false)], args := [d] }
  | _ => none }
def FilesAgainWrongFalsely : Prop := filesAgainRow.holds Try.pinned (OpenSpec.ofChange filesAgainWrong)

/-- 'pliantlaw14.FilesAcknowledged': WHATEVER THE INPUT: true; the input reads as it did. -/
def filesAcknowledgedSpec : ChangeSpec := { name := "filesAcknowledged", fn := fun _ => fun
  | [d1, d2] => { results := [.lit (.bool true)], args := [d1, d2] }
  | _ => none }
def filesAcknowledgedRow : OpenClaim := { program := "ytifcgimpgbeocaa", sum := "a8070a4535a8816b0b530d058cb3274ed5267951d19ab564a492cc873fa9ee87", func := "pliant/pliantlaw14.FilesAcknowledged", spec := "filesAcknowledged", inPlace := ["slices.overlaps[pliant/api.Record]", "internal/abi.NoEscape", "internal/bytealg.MakeNoZero"], unfollowed := true, recurses := true, apart := false }
def FilesAcknowledgedSaid : Prop := filesAcknowledgedRow.holds Try.pinned (OpenSpec.ofChange filesAcknowledgedSpec)

/-- ITS FALSE NEIGHBOUR: 'it returns false'. Refute it at one input. -/
def filesAcknowledgedWrong : ChangeSpec := { name := "filesAcknowledged", fn := fun _ => fun
  | [d1, d2] => { results := [.lit (.bool false)], args := [d1, d2] }
  | _ => none }
def FilesAcknowledgedWrongFalsely : Prop := filesAcknowledgedRow.holds Try.pinned (OpenSpec.ofChange filesAcknowledgedWrong)

/-- 'pliantlaw14.FilesChanges': WHATEVER THE INPUT: true; the input reads as it did. -/
def filesChangesSpec : ChangeSpec := { name := "filesChanges", fn := fun _ => fun
  | [d] => { results := [.lit (.bool true)], args := [d] }
  | _ => none }
def filesChangesRow : OpenClaim := { program := "ytifcgimpgbeocaa", sum := "a8070a4535a8816b0b530d058cb3274ed5267951d19ab564a492cc873fa9ee87", func := "pliant/pliantlaw14.FilesChanges", spec := "filesChanges", inPlace := ["slices.overlaps[pliant/api.Record]", "internal/abi.NoEscape", "internal/bytealg.MakeNoZero"], unfollowed := true, recurses := true, apart := false }
def FilesChangesSaid : Prop := filesChangesRow.holds Try.pinned (OpenSpec.ofChange filesChangesSpec)

/-- ITS FALSE NEIGHBOUR: 'it returns false'. Refute it at one input. -/
def filesChangesWrong : ChangeSpec := { name := "filesChanges", fn := fun _ => fun
  | [d] => { results := [.lit (.bool false)], args := [d] }
  | _ => none }
def FilesChangesWrongFalsely : Prop := filesChangesRow.holds Try.pinned (OpenSpec.ofChange filesChangesWrong)

/-- 'pliantlaw14.FilesExchange': WHATEVER THE INPUT: true; the input reads as it did. -/
def filesExchangeSpec : ChangeSpec := { name := "filesExchange", fn := fun _ => fun
  | [d1, d2, d3] => { results := [.lit (.bool true)], args := [d1, d2, d3] }
  | _ => none }
def filesExchangeRow : OpenClaim := { program := "ytifcgimpgbeocaa", sum := "a8070a4535a8816b0b530d058cb3274ed5267951d19ab564a492cc873fa9ee87", func := "pliant/pliantlaw14.FilesExchange", spec := "filesExchange", inPlace := ["slices.overlaps[pliant/api.Record]", "internal/abi.NoEscape", "internal/bytealg.MakeNoZero"], unfollowed := true, recurses := true, apart := false }
def FilesExchangeSaid : Prop := filesExchangeRow.holds Try.pinned (OpenSpec.ofChange filesExchangeSpec)

/-- ITS FALSE NEIGHBOUR: 'it returns false'. Refute it at one input. -/
def filesExchangeWrong : ChangeSpec := { name := "filesExchange", fn := fun _ => fun
  | [d1, d2, d3] => { results := [.lit (.bool false)], args := [d1, d2, d3] }
  | _ => none }
def FilesExchangeWrongFalsely : Prop := filesExchangeRow.holds Try.pinned (OpenSpec.ofChange filesExchangeWrong)

/-- 'pliantlaw14.FilesCodes': WHATEVER THE INPUT: true; the input reads as it did. -/
def filesCodesSpec : ChangeSpec := { name := "filesCodes", fn := fun _ => fun
  | [d1, d2] => { results := [.lit (.bool true)], args := [d1, d2] }
  | _ => none }
def filesCodesRow : OpenClaim := { program := "ytifcgimpgbeocaa", sum := "a8070a4535a8816b0b530d058cb3274ed5267951d19ab564a492cc873fa9ee87", func := "pliant/pliantlaw14.FilesCodes", spec := "filesCodes", inPlace := ["slices.overlaps[pliant/api.Record]", "internal/abi.NoEscape", "internal/bytealg.MakeNoZero"], unfollowed := true, recurses := true, apart := false }
def FilesCodesSaid : Prop := filesCodesRow.holds Try.pinned (OpenSpec.ofChange filesCodesSpec)

/-- ITS FALSE NEIGHBOUR: 'it returns false'. Refute it at one input. -/
def filesCodesWrong : ChangeSpec := { name := "filesCodes", fn := fun _ => fun
  | [d1, d2] => { results := [.lit (.bool false)], args := [d1, d2] }
  | _ => none }
def FilesCodesWrongFalsely : Prop := filesCodesRow.holds Try.pinned (OpenSpec.ofChange filesCodesWrong)

/-- 'pliantlaw14.FilesCoded': WHATEVER THE INPUT: true; the input reads as it did. -/
def filesCodedSpec : ChangeSpec := { name := "filesCoded", fn := fun _ => fun
  | [d1, d2, d3] => { results := [.lit (.bool true)], args := [d1, d2, d3] }
  | _ => none }
def filesCodedRow : OpenClaim := { program := "ytifcgimpgbeocaa", sum := "a8070a4535a8816b0b530d058cb3274ed5267951d19ab564a492cc873fa9ee87", func := "pliant/pliantlaw14.FilesCoded", spec := "filesCoded", inPlace := ["slices.overlaps[pliant/api.Record]", "internal/abi.NoEscape", "internal/bytealg.MakeNoZero"], unfollowed := true, recurses := true, apart := false }
def FilesCodedSaid : Prop := filesCodedRow.holds Try.pinned (OpenSpec.ofChange filesCodedSpec)

/-- ITS FALSE NEIGHBOUR: 'it returns false'. Refute it at one input. -/
def filesCodedWrong : ChangeSpec := { name := "filesCoded", fn := fun _ => fun
  | [d1, d2, d3] => { results := [.lit (.bool false)], args := [d1, d2, d3] }
  | _ => none }
def FilesCodedWrongFalsely : Prop := filesCodedRow.holds Try.pinned (OpenSpec.ofChange filesCodedWrong)

/-- 'pliantlaw14.FilesReads': WHATEVER THE INPUT: true; the input reads as it did. -/
def filesReadsSpec : ChangeSpec := { name := "filesReads", fn := fun _ => fun
  | [d] => { results := [.lit (.bool true)], args := [d] }
  | _ => none }
def filesReadsRow : OpenClaim := { program := "ytifcgimpgbeocaa", sum := "a8070a4535a8816b0b530d058cb3274ed5267951d19ab564a492cc873fa9ee87", func := "pliant/pliantlaw14.FilesReads", spec := "filesReads", inPlace := ["slices.overlaps[pliant/api.Record]", "internal/abi.NoEscape", "internal/bytealg.MakeNoZero"], unfollowed := true, recurses := true, apart := false }
def FilesReadsSaid : Prop := filesReadsRow.holds Try.pinned (OpenSpec.ofChange filesReadsSpec)

/-- ITS FALSE NEIGHBOUR: 'it returns false'. Refute it at one input. -/
def filesReadsWrong : ChangeSpec := { name := "filesReads", fn := fun _ => fun
  | [d] => { results := [.lit (.bool false)], args := [d] }
  | _ => none }
def FilesReadsWrongFalsely : Prop := filesReadsRow.holds Try.pinned (OpenSpec.ofChange filesReadsWrong)

/-- 'pliantlaw14.FilesWalks': WHATEVER THE INPUT: true; the input reads as it did. -/
def filesWalksSpec : ChangeSpec := { name := "filesWalks", fn := fun _ => fun
  | [d1, d2] => { results := [.lit (.bool true)], args := [d1, d2] }
  | _ => none }
def filesWalksRow : OpenClaim := { program := "ytifcgimpgbeocaa", sum := "a8070a4535a8816b0b530d058cb3274ed5267951d19ab564a492cc873fa9ee87", func := "pliant/pliantlaw14.FilesWalks", spec := "filesWalks", inPlace := ["slices.overlaps[pliant/api.Record]", "internal/abi.NoEscape", "internal/bytealg.MakeNoZero"], unfollowed := true, recurses := true, apart := false }
def FilesWalksSaid : Prop := filesWalksRow.holds Try.pinned (OpenSpec.ofChange filesWalksSpec)

/-- ITS FALSE NEIGHBOUR: 'it returns false'. Refute it at one input. -/
def filesWalksWrong : ChangeSpec := { name := "filesWalks", fn := fun _ => fun
  | [d1, d2] => { results := [.lit (.bool false)], args := [d1, d2] }
  | _ => none }
def FilesWalksWrongFalsely : Prop := filesWalksRow.holds Try.pinned (OpenSpec.ofChange filesWalksWrong)

/-- 'pliantlaw14.FilesFull': WHATEVER THE INPUT: true; the input reads as it did. -/
def filesFullSpec : ChangeSpec := { name := "filesFull", fn := fun _ => fun
  | [d] => { results := [.lit (.bool true)], args := [d] }
  | _ => none }
def filesFullRow : OpenClaim := { program := "ytifcgimpgbeocaa", sum := "a8070a4535a8816b0b530d058cb3274ed5267951d19ab564a492cc873fa9ee87", func := "pliant/pliantlaw14.FilesFull", spec := "filesFull", inPlace := ["slices.overlaps[pliant/api.Record]", "internal/abi.NoEscape", "internal/bytealg.MakeNoZero"], unfollowed := true, recurses := true, apart := false }
def FilesFullSaid : Prop := filesFullRow.holds Try.pinned (OpenSpec.ofChange filesFullSpec)

/-- ITS FALSE NEIGHBOUR: 'it returns false'. Refute it at one input. -/
def filesFullWrong : ChangeSpec := { name := "filesFull", fn := fun _ => fun
  | [d] => { results := [.lit (.bool false)], args := [d] }
  | _ => none }
def FilesFullWrongFalsely : Prop := filesFullRow.holds Try.pinned (OpenSpec.ofChange filesFullWrong)

/-- 'pliantlaw14.FilesDiffs': WHATEVER THE INPUT: true; the input reads as it did. -/
def filesDiffsSpec : ChangeSpec := { name := "filesDiffs", fn := fun _ => fun
  | [d1, d2] => { results := [.lit (.bool true)], args := [d1, d2] }
  | _ => none }
def filesDiffsRow : OpenClaim := { program := "ytifcgimpgbeocaa", sum := "a8070a4535a8816b0b530d058cb3274ed5267951d19ab564a492cc873fa9ee87", func := "pliant/pliantlaw14.FilesDiffs", spec := "filesDiffs", inPlace := ["slices.overlaps[pliant/api.Record]", "internal/abi.NoEscape", "internal/bytealg.MakeNoZero"], unfollowed := true, recurses := true, apart := false }
def FilesDiffsSaid : Prop := filesDiffsRow.holds Try.pinned (OpenSpec.ofChange filesDiffsSpec)

/-- ITS FALSE NEIGHBOUR: 'it returns false'. Refute it at one input. -/
def filesDiffsWrong : ChangeSpec := { name := "filesDiffs", fn := fun _ => fun
  | [d1, d2] => { results := [.lit (.bool false)], args := [d1, d2] }
  | _ => none }
def FilesDiffsWrongFalsely : Prop := filesDiffsRow.holds Try.pinned (OpenSpec.ofChange filesDiffsWrong)

/-- 'pliantlaw14.FilesDiffers': WHATEVER THE INPUT: true; the input reads as it did. -/
def filesDiffersSpec : ChangeSpec := { name := "filesDiffers", fn := fun _ => fun
  | [d1, d2] => { results := [.lit (.bool true)], args := [d1, d2] }
  | _ => none }
def filesDiffersRow : OpenClaim := { program := "ytifcgimpgbeocaa", sum := "a8070a4535a8816b0b530d058cb3274ed5267951d19ab564a492cc873fa9ee87", func := "pliant/pliantlaw14.FilesDiffers", spec := "filesDiffers", inPlace := ["slices.overlaps[pliant/api.Record]", "internal/abi.NoEscape", "internal/bytealg.MakeNoZero"], unfollowed := true, recurses := true, apart := false }
def FilesDiffersSaid : Prop := filesDiffersRow.holds Try.pinned (OpenSpec.ofChange filesDiffersSpec)

/-- ITS FALSE NEIGHBOUR: 'it returns false'. Refute it at one input. -/
def filesDiffersWrong : ChangeSpec := { name := "filesDiffers", fn := fun _ => fun
  | [d1, d2] => { results := [.lit (.bool false)], args := [d1, d2] }
  | _ => none }
def FilesDiffersWrongFalsely : Prop := filesDiffersRow.holds Try.pinned (OpenSpec.ofChange filesDiffersWrong)

/-- 'pliantlaw14.FilesDisks': WHATEVER THE INPUT: true; the input reads as it did. -/
def filesDisksSpec : ChangeSpec := { name := "filesDisks", fn := fun _ => fun
  | [d1, d2, d3] => { results := [.lit (.bool true)], args := [d1, d2, d3] }
  | _ => none }
def filesDisksRow : OpenClaim := { program := "ytifcgimpgbeocaa", sum := "a8070a4535a8816b0b530d058cb3274ed5267951d19ab564a492cc873fa9ee87", func := "pliant/pliantlaw14.FilesDisks", spec := "filesDisks", inPlace := ["slices.overlaps[pliant/api.Record]", "internal/abi.NoEscape", "internal/bytealg.MakeNoZero"], unfollowed := true, recurses := true, apart := false }
def FilesDisksSaid : Prop := filesDisksRow.holds Try.pinned (OpenSpec.ofChange filesDisksSpec)

/-- ITS FALSE NEIGHBOUR: 'it returns false'. Refute it at one input. -/
def filesDisksWrong : ChangeSpec := { name := "filesDisks", fn := fun _ => fun
  | [d1, d2, d3] => { results := [.lit (.bool false)], args := [d1, d2, d3] }
  | _ => none }
def FilesDisksWrongFalsely : Prop := filesDisksRow.holds Try.pinned (OpenSpec.ofChange filesDisksWrong)

/-- 'pliantlaw14.FilesTears': WHATEVER THE INPUT: true; the input reads as it did. -/
def filesTearsSpec : ChangeSpec := { name := "filesTears", fn := fun _ => fun
  | [d1, d2] => { results := [.lit (.bool true)], args := [d1, d2] }
  | _ => none }
def filesTearsRow : OpenClaim := { program := "ytifcgimpgbeocaa", sum := "a8070a4535a8816b0b530d058cb3274ed5267951d19ab564a492cc873fa9ee87", func := "pliant/pliantlaw14.FilesTears", spec := "filesTears", inPlace := ["slices.overlaps[pliant/api.Record]", "internal/abi.NoEscape", "internal/bytealg.MakeNoZero"], unfollowed := true, recurses := true, apart := false }
def FilesTearsSaid : Prop := filesTearsRow.holds Try.pinned (OpenSpec.ofChange filesTearsSpec)

/-- ITS FALSE NEIGHBOUR: 'it returns false'. Refute it at one input. -/
def filesTearsWrong : ChangeSpec := { name := "filesTears", fn := fun _ => fun
  | [d1, d2] => { results := [.lit (.bool false)], args := [d1, d2] }
  | _ => none }
def FilesTearsWrongFalsely : Prop := filesTearsRow.holds Try.pinned (OpenSpec.ofChange filesTearsWrong)

/-- 'pliantlaw14.FilesOpened': WHATEVER THE INPUT: true; the input reads as it did. -/
def filesOpenedSpec : ChangeSpec := { name := "filesOpened", fn := fun _ => fun
  | [d1, d2] => { results := [.lit (.bool true)], args := [d1, d2] }
  | _ => none }
def filesOpenedRow : OpenClaim := { program := "ytifcgimpgbeocaa", sum := "a8070a4535a8816b0b530d058cb3274ed5267951d19ab564a492cc873fa9ee87", func := "pliant/pliantlaw14.FilesOpened", spec := "filesOpened", inPlace := ["slices.overlaps[pliant/api.Record]", "internal/abi.NoEscape", "internal/bytealg.MakeNoZero"], unfollowed := true, recurses := true, apart := false }
def FilesOpenedSaid : Prop := filesOpenedRow.holds Try.pinned (OpenSpec.ofChange filesOpenedSpec)

/-- ITS FALSE NEIGHBOUR: 'it returns false'. Refute it at one input. -/
def filesOpenedWrong : ChangeSpec := { name := "filesOpened", fn := fun _ => fun
  | [d1, d2] => { results := [.lit (.bool false)], args := [d1, d2] }
  | _ => none }
def FilesOpenedWrongFalsely : Prop := filesOpenedRow.holds Try.pinned (OpenSpec.ofChange filesOpenedWrong)

/-- 'pliantlaw14.FilesSurvive': WHATEVER THE INPUT: true; the input reads as it did. -/
def filesSurviveSpec : ChangeSpec := { name := "filesSurvive", fn := fun _ => fun
  | [d] => { results := [.lit (.bool true)], args := [d] }
  | _ => none }
def filesSurviveRow : OpenClaim := { program := "ytifcgimpgbeocaa", sum := "a8070a4535a8816b0b530d058cb3274ed5267951d19ab564a492cc873fa9ee87", func := "pliant/pliantlaw14.FilesSurvive", spec := "filesSurvive", inPlace := ["slices.overlaps[pliant/api.Record]", "internal/abi.NoEscape", "internal/bytealg.MakeNoZero"], unfollowed := true, recurses := true, apart := false }
def FilesSurviveSaid : Prop := filesSurviveRow.holds Try.pinned (OpenSpec.ofChange filesSurviveSpec)

/-- ITS FALSE NEIGHBOUR: 'it returns false'. Refute it at one input. -/
def filesSurviveWrong : ChangeSpec := { name := "filesSurvive", fn := fun _ => fun
  | [d] => { results := [.lit (.bool false)], args := [d] }
  | _ => none }
def FilesSurviveWrongFalsely : Prop := filesSurviveRow.holds Try.pinned (OpenSpec.ofChange filesSurviveWrong)

/- THE SECOND FORM. 'bulk': how many values and letters a reading holds, each counted each time it is reached (what is shared counts as often as it is met; a slice's spare places count too). A statement '..UptoSaid' is the law's where the arguments, and the package variables that the reading takes, are together of bulk at most 1048576: NARROWER than '..Said'. Prove '..Said' where nothing that the law and all that it calls make is longer than what came in: it says more and counts as full. Else prove '..UptoSaid'. A law counts once. -/
mutual
def uptoBulk {H : Type} : DataW H → Nat
  | .lit (.string bytes) => bytes.length + 1
  | .lit _ => 1
  | .nil => 1
  | .ptr d => uptoBulk d + 1
  | .slice elems spare => uptoBulkAll elems + uptoBulkAll spare + 1
  | .agg parts => uptoBulkAll parts + 1
  | .iface _ d => uptoBulk d + 1
  | .map entries => uptoBulkEntries entries + 1
  | .held _ => 1
def uptoBulkAll {H : Type} : List (DataW H) → Nat
  | [] => 0
  | d :: r => uptoBulk d + uptoBulkAll r
def uptoBulkEntries {H : Type} : List (Lit × DataW H) → Nat
  | [] => 0
  | x :: r => uptoBulkEntry x + uptoBulkEntries r
def uptoBulkEntry {H : Type} : Lit × DataW H → Nat
  | (.string bytes, d) => bytes.length + uptoBulk d + 1
  | (_, d) => uptoBulk d + 1
 end
def uptoSmall : (H : Type) → List (DataW H) → Bool := fun _ ds => decide (uptoBulkAll ds ≤ 1048576)
def OpenSpec.upto (s : _root_.Go.ChangeSpec) : _root_.Go.OpenSpec := { _root_.Go.OpenSpec.ofChange s with cond := some uptoSmall }

/-- 'pliantlaw14.FilesAgain', WHERE WHAT IT READS IS OF BULK AT MOST 1048576: true; the input reads as it did. -/
def filesAgainUptoRow : OpenClaim := { program := "ytifcgimpgbeocaa", sum := "a8070a4535a8816b0b530d058cb3274ed5267951d19ab564a492cc873fa9ee87", func := "pliant/pliantlaw14.FilesAgain", spec := "filesAgain", inPlace := ["slices.overlaps[pliant/api.Record]", "internal/abi.NoEscape", "internal/bytealg.MakeNoZero"], unfollowed := true, recurses := true, apart := false, narrowed := true }
def FilesAgainUptoSaid : Prop := filesAgainUptoRow.holds Try.pinned (OpenSpec.upto filesAgainSpec)

/-- 'pliantlaw14.FilesAcknowledged', WHERE WHAT IT READS IS OF BULK AT MOST 1048576: true; the input reads as it did. -/
def filesAcknowledgedUptoRow : OpenClaim := { program := "ytifcgimpgbeocaa", sum := "a8070a4535a8816b0b530d058cb3274ed5267951d19ab564a492cc873fa9ee87", func := "pliant/pliantlaw14.FilesAcknowledged", spec := "filesAcknowledged", inPlace := ["slices.overlaps[pliant/api.Record]", "internal/abi.NoEscape", "internal/bytealg.MakeNoZero"], unfollowed := true, recurses := true, apart := false, narrowed := true }
def FilesAcknowledgedUptoSaid : Prop := filesAcknowledgedUptoRow.holds Try.pinned (OpenSpec.upto filesAcknowledgedSpec)

/-- 'pliantlaw14.FilesChanges', WHERE WHAT IT READS IS OF BULK AT MOST 1048576: true; the input reads as it did. -/
def filesChangesUptoRow : OpenClaim := { program := "ytifcgimpgbeocaa", sum := "a8070a4535a8816b0b530d058cb3274ed5267951d19ab564a492cc873fa9ee87", func := "pliant/pliantlaw14.FilesChanges", spec := "filesChanges", inPlace := ["slices.overlaps[pliant/api.Record]", "internal/abi.NoEscape", "internal/bytealg.MakeNoZero"], unfollowed := true, recurses := true, apart := false, narrowed := true }
def FilesChangesUptoSaid : Prop := filesChangesUptoRow.holds Try.pinned (OpenSpec.upto filesChangesSpec)

/-- 'pliantlaw14.FilesExchange', WHERE WHAT IT READS IS OF BULK AT MOST 1048576: true; the input reads as it did. -/
def filesExchangeUptoRow : OpenClaim := { program := "ytifcgimpgbeocaa", sum := "a8070a4535a8816b0b530d058cb3274ed5267951d19ab564a492cc873fa9ee87", func := "pliant/pliantlaw14.FilesExchange", spec := "filesExchange", inPlace := ["slices.overlaps[pliant/api.Record]", "internal/abi.NoEscape", "internal/bytealg.MakeNoZero"], unfollowed := true, recurses := true, apart := false, narrowed := true }
def FilesExchangeUptoSaid : Prop := filesExchangeUptoRow.holds Try.pinned (OpenSpec.upto filesExchangeSpec)

/-- 'pliantlaw14.FilesCodes', WHERE WHAT IT READS IS OF BULK AT MOST 1048576: true; the input reads as it did. -/
def filesCodesUptoRow : OpenClaim := { program := "ytifcgimpgbeocaa", sum := "a8070a4535a8816b0b530d058cb3274ed5267951d19ab564a492cc873fa9ee87", func := "pliant/pliantlaw14.FilesCodes", spec := "filesCodes", inPlace := ["slices.overlaps[pliant/api.Record]", "internal/abi.NoEscape", "internal/bytealg.MakeNoZero"], unfollowed := true, recurses := true, apart := false, narrowed := true }
def FilesCodesUptoSaid : Prop := filesCodesUptoRow.holds Try.pinned (OpenSpec.upto filesCodesSpec)

/-- 'pliantlaw14.FilesCoded', WHERE WHAT IT READS IS OF BULK AT MOST 1048576: true; the input reads as it did. -/
def filesCodedUptoRow : OpenClaim := { program := "ytifcgimpgbeocaa", sum := "a8070a4535a8816b0b530d058cb3274ed5267951d19ab564a492cc873fa9ee87", func := "pliant/pliantlaw14.FilesCoded", spec := "filesCoded", inPlace := ["slices.overlaps[pliant/api.Record]", "internal/abi.NoEscape", "internal/bytealg.MakeNoZero"], unfollowed := true, recurses := true, apart := false, narrowed := true }
def FilesCodedUptoSaid : Prop := filesCodedUptoRow.holds Try.pinned (OpenSpec.upto filesCodedSpec)

/-- 'pliantlaw14.FilesReads', WHERE WHAT IT READS IS OF BULK AT MOST 1048576: true; the input reads as it did. -/
def filesReadsUptoRow : OpenClaim := { program := "ytifcgimpgbeocaa", sum := "a8070a4535a8816b0b530d058cb3274ed5267951d19ab564a492cc873fa9ee87", func := "pliant/pliantlaw14.FilesReads", spec := "filesReads", inPlace := ["slices.overlaps[pliant/api.Record]", "internal/abi.NoEscape", "internal/bytealg.MakeNoZero"], unfollowed := true, recurses := true, apart := false, narrowed := true }
def FilesReadsUptoSaid : Prop := filesReadsUptoRow.holds Try.pinned (OpenSpec.upto filesReadsSpec)

/-- 'pliantlaw14.FilesWalks', WHERE WHAT IT READS IS OF BULK AT MOST 1048576: true; the input reads as it did. -/
def filesWalksUptoRow : OpenClaim := { program := "ytifcgimpgbeocaa", sum := "a8070a4535a8816b0b530d058cb3274ed5267951d19ab564a492cc873fa9ee87", func := "pliant/pliantlaw14.FilesWalks", spec := "filesWalks", inPlace := ["slices.overlaps[pliant/api.Record]", "internal/abi.NoEscape", "internal/bytealg.MakeNoZero"], unfollowed := true, recurses := true, apart := false, narrowed := true }
def FilesWalksUptoSaid : Prop := filesWalksUptoRow.holds Try.pinned (OpenSpec.upto filesWalksSpec)

/-- 'pliantlaw14.FilesFull', WHERE WHAT IT READS IS OF BULK AT MOST 1048576: true; the input reads as it did. -/
def filesFullUptoRow : OpenClaim := { program := "ytifcgimpgbeocaa", sum := "a8070a4535a8816b0b530d058cb3274ed5267951d19ab564a492cc873fa9ee87", func := "pliant/pliantlaw14.FilesFull", spec := "filesFull", inPlace := ["slices.overlaps[pliant/api.Record]", "internal/abi.NoEscape", "internal/bytealg.MakeNoZero"], unfollowed := true, recurses := true, apart := false, narrowed := true }
def FilesFullUptoSaid : Prop := filesFullUptoRow.holds Try.pinned (OpenSpec.upto filesFullSpec)

/-- 'pliantlaw14.FilesDiffs', WHERE WHAT IT READS IS OF BULK AT MOST 1048576: true; the input reads as it did. -/
def filesDiffsUptoRow : OpenClaim := { program := "ytifcgimpgbeocaa", sum := "a8070a4535a8816b0b530d058cb3274ed5267951d19ab564a492cc873fa9ee87", func := "pliant/pliantlaw14.FilesDiffs", spec := "filesDiffs", inPlace := ["slices.overlaps[pliant/api.Record]", "internal/abi.NoEscape", "internal/bytealg.MakeNoZero"], unfollowed := true, recurses := true, apart := false, narrowed := true }
def FilesDiffsUptoSaid : Prop := filesDiffsUptoRow.holds Try.pinned (OpenSpec.upto filesDiffsSpec)

/-- 'pliantlaw14.FilesDiffers', WHERE WHAT IT READS IS OF BULK AT MOST 1048576: true; the input reads as it did. -/
def filesDiffersUptoRow : OpenClaim := { program := "ytifcgimpgbeocaa", sum := "a8070a4535a8816b0b530d058cb3274ed5267951d19ab564a492cc873fa9ee87", func := "pliant/pliantlaw14.FilesDiffers", spec := "filesDiffers", inPlace := ["slices.overlaps[pliant/api.Record]", "internal/abi.NoEscape", "internal/bytealg.MakeNoZero"], unfollowed := true, recurses := true, apart := false, narrowed := true }
def FilesDiffersUptoSaid : Prop := filesDiffersUptoRow.holds Try.pinned (OpenSpec.upto filesDiffersSpec)

/-- 'pliantlaw14.FilesDisks', WHERE WHAT IT READS IS OF BULK AT MOST 1048576: true; the input reads as it did. -/
def filesDisksUptoRow : OpenClaim := { program := "ytifcgimpgbeocaa", sum := "a8070a4535a8816b0b530d058cb3274ed5267951d19ab564a492cc873fa9ee87", func := "pliant/pliantlaw14.FilesDisks", spec := "filesDisks", inPlace := ["slices.overlaps[pliant/api.Record]", "internal/abi.NoEscape", "internal/bytealg.MakeNoZero"], unfollowed := true, recurses := true, apart := false, narrowed := true }
def FilesDisksUptoSaid : Prop := filesDisksUptoRow.holds Try.pinned (OpenSpec.upto filesDisksSpec)

/-- 'pliantlaw14.FilesTears', WHERE WHAT IT READS IS OF BULK AT MOST 1048576: true; the input reads as it did. -/
def filesTearsUptoRow : OpenClaim := { program := "ytifcgimpgbeocaa", sum := "a8070a4535a8816b0b530d058cb3274ed5267951d19ab564a492cc873fa9ee87", func := "pliant/pliantlaw14.FilesTears", spec := "filesTears", inPlace := ["slices.overlaps[pliant/api.Record]", "internal/abi.NoEscape", "internal/bytealg.MakeNoZero"], unfollowed := true, recurses := true, apart := false, narrowed := true }
def FilesTearsUptoSaid : Prop := filesTearsUptoRow.holds Try.pinned (OpenSpec.upto filesTearsSpec)

/-- 'pliantlaw14.FilesOpened', WHERE WHAT IT READS IS OF BULK AT MOST 1048576: true; the input reads as it did. -/
def filesOpenedUptoRow : OpenClaim := { program := "ytifcgimpgbeocaa", sum := "a8070a4535a8816b0b530d058cb3274ed5267951d19ab564a492cc873fa9ee87", func := "pliant/pliantlaw14.FilesOpened", spec := "filesOpened", inPlace := ["slices.overlaps[pliant/api.Record]", "internal/abi.NoEscape", "internal/bytealg.MakeNoZero"], unfollowed := true, recurses := true, apart := false, narrowed := true }
def FilesOpenedUptoSaid : Prop := filesOpenedUptoRow.holds Try.pinned (OpenSpec.upto filesOpenedSpec)

/-- 'pliantlaw14.FilesSurvive', WHERE WHAT IT READS IS OF BULK AT MOST 1048576: true; the input reads as it did. -/
def filesSurviveUptoRow : OpenClaim := { program := "ytifcgimpgbeocaa", sum := "a8070a4535a8816b0b530d058cb3274ed5267951d19ab564a492cc873fa9ee87", func := "pliant/pliantlaw14.FilesSurvive", spec := "filesSurvive", inPlace := ["slices.overlaps[pliant/api.Record]", "internal/abi.NoEscape", "internal/bytealg.MakeNoZero"], unfollowed := true, recurses := true, apart := false, narrowed := true }
def FilesSurviveUptoSaid : Prop := filesSurviveUptoRow.holds Try.pinned (OpenSpec.upto filesSurviveSpec)

end Rows
end Go.Proofs.Ytifcgimpgbeocaa
