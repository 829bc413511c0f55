/-
  No cell of these rows narrows 'for every input' (looked for: loops, veiled, ifaces, maps, wideKeys, modest, calm, conditions, laid).
  DERIVED. THE GIVEN ROWS OF THIS SEAT. 16 by the template 'for every input the law returns true; each argument reads behind the call as it read before'; 0 by the template 'total and deterministic' (their statements: YtcfmimfkaabmkaaTotals.lean).
  GIVEN WITH THE SEED: the statements are not yours to turn. If you find one false, say at which input.
  Laid BY PROGRAM, IN A SANDBOX (cutbox-rows.mjs): the forced cells as the released guide's own fill.sh prints them over the translation 4362fcb2d1951c4a… (all of the seat's roots in one cut). By AI agents, Wed Nov 11 2026. No macro, syntax, notation, axiom, sorry.
-/
import Derived.Test.YtcfmimfkaabmkaaChecked
import GoSem.Claim
import GoSem.ClaimJoined
import GoSem.ClaimMapViews
import Derived.JoinedTies
import Derived.KernelRfl
namespace Go.Proofs.Ytcfmimfkaabmkaa
/- THE CELL 'sum', in the pinned program and in every row, IS THE sha256 OF THE DUMP (.gsa) THAT YtcfmimfkaabmkaaProg.lean LOADS. Nothing in Lean hashes anything: it is a label: what it is worth is what the hold of that sum in a sandbox is worth. -/
noncomputable def Try.pinned : Pinned := { name := "ytcfmimfkaabmkaa", sum := "4362fcb2d1951c4a60e66b88978d530112da10749cfd7d58c66065df3c258665", checked := Try.checked }
namespace Rows
def none {H : Type} : Left H := { results := [], args := [] }

/-- 'pliantlaw12.AreaAllocates': WHATEVER THE INPUT: true; the input reads as it did. -/
def areaAllocatesSpec : ChangeSpec := { name := "areaAllocates", fn := fun _ => fun
  | [d] => { results := [.lit (.bool true)], args := [d] }
  | _ => none }
def areaAllocatesRow : OpenClaim := { program := "ytcfmimfkaabmkaa", sum := "4362fcb2d1951c4a60e66b88978d530112da10749cfd7d58c66065df3c258665", func := "pliant/pliantlaw12.AreaAllocates", spec := "areaAllocates", inPlace := ["internal/abi.NoEscape", "internal/bytealg.MakeNoZero"], unfollowed := true, recurses := true, apart := false }
def AreaAllocatesSaid : Prop := areaAllocatesRow.holds Try.pinned (OpenSpec.ofChange areaAllocatesSpec)

/-- ITS FALSE NEIGHBOUR: 'it returns false'. Refute it at one input. -/
def areaAllocatesWrong : ChangeSpec := { name := "areaAllocates", fn := fun _ => fun
  | [d] => { results := [.lit (.bool false)], args := [d] }
  | _ => none }
def AreaAllocatesWrongFalsely : Prop := areaAllocatesRow.holds Try.pinned (OpenSpec.ofChange areaAllocatesWrong)

/-- 'pliantlaw12.AreaUndone': WHATEVER THE INPUT: true; the input reads as it did. -/
def areaUndoneSpec : ChangeSpec := { name := "areaUndone", fn := fun _ => fun
  | [d1, d2, d3] => { results := [.lit (.bool true)], args := [d1, d2, d3] }
  | _ => none }
def areaUndoneRow : OpenClaim := { program := "ytcfmimfkaabmkaa", sum := "4362fcb2d1951c4a60e66b88978d530112da10749cfd7d58c66065df3c258665", func := "pliant/pliantlaw12.AreaUndone", spec := "areaUndone", inPlace := ["internal/abi.NoEscape", "internal/bytealg.MakeNoZero"], unfollowed := true, recurses := true, apart := false }
def AreaUndoneSaid : Prop := areaUndoneRow.holds Try.pinned (OpenSpec.ofChange areaUndoneSpec)

/-- ITS FALSE NEIGHBOUR: 'it returns false'. Refute it at one input. -/
def areaUndoneWrong : ChangeSpec := { name := "areaUndone", fn := fun _ => fun
  | [d1, d2, d3] => { results := [.lit (.bool false)], args := [d1, d2, d3] }
  | _ => none }
def AreaUndoneWrongFalsely : Prop := areaUndoneRow.holds Try.pinned (OpenSpec.ofChange areaUndoneWrong)

/-- 'pliantlaw12.AreaAssigns': WHATEVER THE INPUT: true; the input reads as it did. -/
def areaAssignsSpec : ChangeSpec := { name := "areaAssigns", fn := fun _ => fun
  | [d1, d2, d3] => { results := [.lit (.bool true)], args := [d1, d2, d3] }
  | _ => none }
def areaAssignsRow : OpenClaim := { program := "ytcfmimfkaabmkaa", sum := "4362fcb2d1951c4a60e66b88978d530112da10749cfd7d58c66065df3c258665", func := "pliant/pliantlaw12.AreaAssigns", spec := "areaAssigns", inPlace := ["internal/abi.NoEscape", "internal/bytealg.MakeNoZero"], unfollowed := true, recurses := true, apart := false }
def AreaAssignsSaid : Prop := areaAssignsRow.holds Try.pinned (OpenSpec.ofChange areaAssignsSpec)

/-- ITS FALSE NEIGHBOUR: 'it returns false'. Refute it at one input. -/
def areaAssignsWrong : ChangeSpec := { name := "areaAssigns", fn := fun _ => fun
  | [d1, d2, d3] => { results := [.lit (.bool false)], args := [d1, d2, d3] }
  | _ => none }
def AreaAssignsWrongFalsely : Prop := areaAssignsRow.holds Try.pinned (OpenSpec.ofChange areaAssignsWrong)

/-- 'pliantlaw12.AreaCompacts': WHATEVER THE INPUT: true; the input reads as it did. -/
def areaCompactsSpec : ChangeSpec := { name := "areaCompacts", fn := fun _ => fun
  | [d1, d2, d3] => { results := [.lit (.bool true)], args := [d1, d2, d3] }
  | _ => none }
def areaCompactsRow : OpenClaim := { program := "ytcfmimfkaabmkaa", sum := "4362fcb2d1951c4a60e66b88978d530112da10749cfd7d58c66065df3c258665", func := "pliant/pliantlaw12.AreaCompacts", spec := "areaCompacts", inPlace := ["internal/abi.NoEscape", "internal/bytealg.MakeNoZero"], unfollowed := true, recurses := true, apart := false }
def AreaCompactsSaid : Prop := areaCompactsRow.holds Try.pinned (OpenSpec.ofChange areaCompactsSpec)

/-- ITS FALSE NEIGHBOUR: 'it returns false'. Refute it at one input. -/
def areaCompactsWrong : ChangeSpec := { name := "areaCompacts", fn := fun _ => fun
  | [d1, d2, d3] => { results := [.lit (.bool false)], args := [d1, d2, d3] }
  | _ => none }
def AreaCompactsWrongFalsely : Prop := areaCompactsRow.holds Try.pinned (OpenSpec.ofChange areaCompactsWrong)

/-- 'pliantlaw12.AreaBuilds': WHATEVER THE INPUT: true; the input reads as it did. -/
def areaBuildsSpec : ChangeSpec := { name := "areaBuilds", fn := fun _ => fun
  | [d] => { results := [.lit (.bool true)], args := [d] }
  | _ => none }
def areaBuildsRow : OpenClaim := { program := "ytcfmimfkaabmkaa", sum := "4362fcb2d1951c4a60e66b88978d530112da10749cfd7d58c66065df3c258665", func := "pliant/pliantlaw12.AreaBuilds", spec := "areaBuilds", inPlace := ["internal/abi.NoEscape", "internal/bytealg.MakeNoZero"], unfollowed := true, recurses := true, apart := false }
def AreaBuildsSaid : Prop := areaBuildsRow.holds Try.pinned (OpenSpec.ofChange areaBuildsSpec)

/-- ITS FALSE NEIGHBOUR: 'it returns false'. Refute it at one input. -/
def areaBuildsWrong : ChangeSpec := { name := "areaBuilds", fn := fun _ => fun
  | [d] => { results := [.lit (.bool false)], args := [d] }
  | _ => none }
def AreaBuildsWrongFalsely : Prop := areaBuildsRow.holds Try.pinned (OpenSpec.ofChange areaBuildsWrong)

/-- 'pliantlaw12.AreaResized': WHATEVER THE INPUT: true; the input reads as it did. -/
def areaResizedSpec : ChangeSpec := { name := "areaResized", fn := fun _ => fun
  | [d1, d2, d3] => { results := [.lit (.bool true)], args := [d1, d2, d3] }
  | _ => none }
def areaResizedRow : OpenClaim := { program := "ytcfmimfkaabmkaa", sum := "4362fcb2d1951c4a60e66b88978d530112da10749cfd7d58c66065df3c258665", func := "pliant/pliantlaw12.AreaResized", spec := "areaResized", inPlace := ["internal/abi.NoEscape", "internal/bytealg.MakeNoZero"], unfollowed := true, recurses := true, apart := false }
def AreaResizedSaid : Prop := areaResizedRow.holds Try.pinned (OpenSpec.ofChange areaResizedSpec)

/-- ITS FALSE NEIGHBOUR: 'it returns false'. Refute it at one input. -/
def areaResizedWrong : ChangeSpec := { name := "areaResized", fn := fun _ => fun
  | [d1, d2, d3] => { results := [.lit (.bool false)], args := [d1, d2, d3] }
  | _ => none }
def AreaResizedWrongFalsely : Prop := areaResizedRow.holds Try.pinned (OpenSpec.ofChange areaResizedWrong)

/-- 'pliantlaw12.AreaReads': WHATEVER THE INPUT: true; the input reads as it did. -/
def areaReadsSpec : ChangeSpec := { name := "areaReads", fn := fun _ => fun
  | [d] => { results := [.lit (.bool true)], args := [d] }
  | _ => none }
def areaReadsRow : OpenClaim := { program := "ytcfmimfkaabmkaa", sum := "4362fcb2d1951c4a60e66b88978d530112da10749cfd7d58c66065df3c258665", func := "pliant/pliantlaw12.AreaReads", spec := "areaReads", inPlace := ["internal/abi.NoEscape", "internal/bytealg.MakeNoZero"], unfollowed := true, recurses := true, apart := false }
def AreaReadsSaid : Prop := areaReadsRow.holds Try.pinned (OpenSpec.ofChange areaReadsSpec)

/-- ITS FALSE NEIGHBOUR: 'it returns false'. Refute it at one input. -/
def areaReadsWrong : ChangeSpec := { name := "areaReads", fn := fun _ => fun
  | [d] => { results := [.lit (.bool false)], args := [d] }
  | _ => none }
def AreaReadsWrongFalsely : Prop := areaReadsRow.holds Try.pinned (OpenSpec.ofChange areaReadsWrong)

/-- 'pliantlaw12.AreaForms': WHATEVER THE INPUT: true; the input reads as it did. -/
def areaFormsSpec : ChangeSpec := { name := "areaForms", fn := fun _ => fun
  | [d1, d2] => { results := [.lit (.bool true)], args := [d1, d2] }
  | _ => none }
def areaFormsRow : OpenClaim := { program := "ytcfmimfkaabmkaa", sum := "4362fcb2d1951c4a60e66b88978d530112da10749cfd7d58c66065df3c258665", func := "pliant/pliantlaw12.AreaForms", spec := "areaForms", inPlace := ["internal/abi.NoEscape", "internal/bytealg.MakeNoZero"], unfollowed := true, recurses := true, apart := false }
def AreaFormsSaid : Prop := areaFormsRow.holds Try.pinned (OpenSpec.ofChange areaFormsSpec)

/-- ITS FALSE NEIGHBOUR: 'it returns false'. Refute it at one input. -/
def areaFormsWrong : ChangeSpec := { name := "areaForms", fn := fun _ => fun
  | [d1, d2] => { results := [.lit (.bool false)], args := [d1, d2] }
  | _ => none }
def AreaFormsWrongFalsely : Prop := areaFormsRow.holds Try.pinned (OpenSpec.ofChange areaFormsWrong)

/-- 'pliantlaw12.AreaApart': WHATEVER THE INPUT: true; the input reads as it did. -/
def areaApartSpec : ChangeSpec := { name := "areaApart", fn := fun _ => fun
  | [d] => { results := [.lit (.bool true)], args := [d] }
  | _ => none }
def areaApartRow : OpenClaim := { program := "ytcfmimfkaabmkaa", sum := "4362fcb2d1951c4a60e66b88978d530112da10749cfd7d58c66065df3c258665", func := "pliant/pliantlaw12.AreaApart", spec := "areaApart", inPlace := ["internal/abi.NoEscape", "internal/bytealg.MakeNoZero"], unfollowed := true, recurses := true, apart := false }
def AreaApartSaid : Prop := areaApartRow.holds Try.pinned (OpenSpec.ofChange areaApartSpec)

/-- ITS FALSE NEIGHBOUR: 'it returns false'. Refute it at one input. -/
def areaApartWrong : ChangeSpec := { name := "areaApart", fn := fun _ => fun
  | [d] => { results := [.lit (.bool false)], args := [d] }
  | _ => none }
def AreaApartWrongFalsely : Prop := areaApartRow.holds Try.pinned (OpenSpec.ofChange areaApartWrong)

/-- 'pliantlaw12.AreaReached': WHATEVER THE INPUT: true; the input reads as it did. -/
def areaReachedSpec : ChangeSpec := { name := "areaReached", fn := fun _ => fun
  | [d] => { results := [.lit (.bool true)], args := [d] }
  | _ => none }
def areaReachedRow : OpenClaim := { program := "ytcfmimfkaabmkaa", sum := "4362fcb2d1951c4a60e66b88978d530112da10749cfd7d58c66065df3c258665", func := "pliant/pliantlaw12.AreaReached", spec := "areaReached", inPlace := ["internal/abi.NoEscape", "internal/bytealg.MakeNoZero"], unfollowed := true, recurses := true, apart := false }
def AreaReachedSaid : Prop := areaReachedRow.holds Try.pinned (OpenSpec.ofChange areaReachedSpec)

/-- ITS FALSE NEIGHBOUR: 'it returns false'. Refute it at one input. -/
def areaReachedWrong : ChangeSpec := { name := "areaReached", fn := fun _ => fun
  | [d] => { results := [.lit (.bool false)], args := [d] }
  | _ => none }
def AreaReachedWrongFalsely : Prop := areaReachedRow.holds Try.pinned (OpenSpec.ofChange areaReachedWrong)

/-- 'pliantlaw12.AreaRoom': WHATEVER THE INPUT: true; the input reads as it did. -/
def areaRoomSpec : ChangeSpec := { name := "areaRoom", fn := fun _ => fun
  | [d1, d2] => { results := [.lit (.bool true)], args := [d1, d2] }
  | _ => none }
def areaRoomRow : OpenClaim := { program := "ytcfmimfkaabmkaa", sum := "4362fcb2d1951c4a60e66b88978d530112da10749cfd7d58c66065df3c258665", func := "pliant/pliantlaw12.AreaRoom", spec := "areaRoom", inPlace := ["internal/abi.NoEscape", "internal/bytealg.MakeNoZero"], unfollowed := true, recurses := true, apart := false }
def AreaRoomSaid : Prop := areaRoomRow.holds Try.pinned (OpenSpec.ofChange areaRoomSpec)

/-- ITS FALSE NEIGHBOUR: 'it returns false'. Refute it at one input. -/
def areaRoomWrong : ChangeSpec := { name := "areaRoom", fn := fun _ => fun
  | [d1, d2] => { results := [.lit (.bool false)], args := [d1, d2] }
  | _ => none }
def AreaRoomWrongFalsely : Prop := areaRoomRow.holds Try.pinned (OpenSpec.ofChange areaRoomWrong)

/-- 'pliantlaw12.AreaOneForm': WHATEVER THE INPUT: true; the input reads as it did. -/
def areaOneFormSpec : ChangeSpec := { name := "areaOneForm", fn := fun _ => fun
  | [d1, d2] => { results := [.lit (.bool true)], args := [d1, d2] }
  | _ => none }
def areaOneFormRow : OpenClaim := { program := "ytcfmimfkaabmkaa", sum := "4362fcb2d1951c4a60e66b88978d530112da10749cfd7d58c66065df3c258665", func := "pliant/pliantlaw12.AreaOneForm", spec := "areaOneForm", inPlace := ["internal/abi.NoEscape", "internal/bytealg.MakeNoZero"], unfollowed := true, recurses := true, apart := false }
def AreaOneFormSaid : Prop := areaOneFormRow.holds Try.pinned (OpenSpec.ofChange areaOneFormSpec)

/-- ITS FALSE NEIGHBOUR: 'it returns false'. Refute it at one input. -/
def areaOneFormWrong : ChangeSpec := { name := "areaOneForm", fn := fun _ => fun
  | [d1, d2] => { results := [.lit (.bool false)], args := [d1, d2] }
  | _ => none }
def AreaOneFormWrongFalsely : Prop := areaOneFormRow.holds Try.pinned (OpenSpec.ofChange areaOneFormWrong)

/-- 'pliantlaw12.AreaFirstFit': WHATEVER THE INPUT: true; the input reads as it did. -/
def areaFirstFitSpec : ChangeSpec := { name := "areaFirstFit", fn := fun _ => fun
  | [d1, d2] => { results := [.lit (.bool true)], args := [d1, d2] }
  | _ => none }
def areaFirstFitRow : OpenClaim := { program := "ytcfmimfkaabmkaa", sum := "4362fcb2d1951c4a60e66b88978d530112da10749cfd7d58c66065df3c258665", func := "pliant/pliantlaw12.AreaFirstFit", spec := "areaFirstFit", inPlace := ["internal/abi.NoEscape", "internal/bytealg.MakeNoZero"], unfollowed := true, recurses := true, apart := false }
def AreaFirstFitSaid : Prop := areaFirstFitRow.holds Try.pinned (OpenSpec.ofChange areaFirstFitSpec)

/-- ITS FALSE NEIGHBOUR: 'it returns false'. Refute it at one input. -/
def areaFirstFitWrong : ChangeSpec := { name := "areaFirstFit", fn := fun _ => fun
  | [d1, d2] => { results := [.lit (.bool false)], args := [d1, d2] }
  | _ => none }
def AreaFirstFitWrongFalsely : Prop := areaFirstFitRow.holds Try.pinned (OpenSpec.ofChange areaFirstFitWrong)

/-- 'pliantlaw12.AreaKeeps': WHATEVER THE INPUT: true; the input reads as it did. -/
def areaKeepsSpec : ChangeSpec := { name := "areaKeeps", fn := fun _ => fun
  | [d1, d2] => { results := [.lit (.bool true)], args := [d1, d2] }
  | _ => none }
def areaKeepsRow : OpenClaim := { program := "ytcfmimfkaabmkaa", sum := "4362fcb2d1951c4a60e66b88978d530112da10749cfd7d58c66065df3c258665", func := "pliant/pliantlaw12.AreaKeeps", spec := "areaKeeps", inPlace := ["internal/abi.NoEscape", "internal/bytealg.MakeNoZero"], unfollowed := true, recurses := true, apart := false }
def AreaKeepsSaid : Prop := areaKeepsRow.holds Try.pinned (OpenSpec.ofChange areaKeepsSpec)

/-- ITS FALSE NEIGHBOUR: 'it returns false'. Refute it at one input. -/
def areaKeepsWrong : ChangeSpec := { name := "areaKeeps", fn := fun _ => fun
  | [d1, d2] => { results := [.lit (.bool false)], args := [d1, d2] }
  | _ => none }
def AreaKeepsWrongFalsely : Prop := areaKeepsRow.holds Try.pinned (OpenSpec.ofChange areaKeepsWrong)

/-- 'pliantlaw12.AreaMoved': WHATEVER THE INPUT: true; the input reads as it did. -/
def areaMovedSpec : ChangeSpec := { name := "areaMoved", fn := fun _ => fun
  | [d] => { results := [.lit (.bool true)], args := [d] }
  | _ => none }
def areaMovedRow : OpenClaim := { program := "ytcfmimfkaabmkaa", sum := "4362fcb2d1951c4a60e66b88978d530112da10749cfd7d58c66065df3c258665", func := "pliant/pliantlaw12.AreaMoved", spec := "areaMoved", inPlace := ["internal/abi.NoEscape", "internal/bytealg.MakeNoZero"], unfollowed := true, recurses := true, apart := false }
def AreaMovedSaid : Prop := areaMovedRow.holds Try.pinned (OpenSpec.ofChange areaMovedSpec)

/-- ITS FALSE NEIGHBOUR: 'it returns false'. Refute it at one input. -/
def areaMovedWrong : ChangeSpec := { name := "areaMoved", fn := fun _ => fun
  | [d] => { results := [.lit (.bool false)], args := [d] }
  | _ => none }
def AreaMovedWrongFalsely : Prop := areaMovedRow.holds Try.pinned (OpenSpec.ofChange areaMovedWrong)

/-- 'pliantlaw12.AreaRefuses': WHATEVER THE INPUT: true; the input reads as it did. -/
def areaRefusesSpec : ChangeSpec := { name := "areaRefuses", fn := fun _ => fun
  | [d] => { results := [.lit (.bool true)], args := [d] }
  | _ => none }
def areaRefusesRow : OpenClaim := { program := "ytcfmimfkaabmkaa", sum := "4362fcb2d1951c4a60e66b88978d530112da10749cfd7d58c66065df3c258665", func := "pliant/pliantlaw12.AreaRefuses", spec := "areaRefuses", inPlace := ["internal/abi.NoEscape", "internal/bytealg.MakeNoZero"], unfollowed := true, recurses := true, apart := false }
def AreaRefusesSaid : Prop := areaRefusesRow.holds Try.pinned (OpenSpec.ofChange areaRefusesSpec)

/-- ITS FALSE NEIGHBOUR: 'it returns false'. Refute it at one input. -/
def areaRefusesWrong : ChangeSpec := { name := "areaRefuses", fn := fun _ => fun
  | [d] => { results := [.lit (.bool false)], args := [d] }
  | _ => none }
def AreaRefusesWrongFalsely : Prop := areaRefusesRow.holds Try.pinned (OpenSpec.ofChange areaRefusesWrong)

/- THE SECOND FORM. 'bulk': how many values and letters a reading holds, each counted each time it is reached (what is shared counts as often as it is met; a slice's spare places count too). A statement '..UptoSaid' is the law's where the arguments, and the package variables that the reading takes, are together of bulk at most 1048576: NARROWER than '..Said'. Prove '..Said' where nothing that the law and all that it calls make is longer than what came in: it says more and counts as full. Else prove '..UptoSaid'. A law counts once. -/
mutual
def uptoBulk {H : Type} : DataW H → Nat
  | .lit (.string bytes) => bytes.length + 1
  | .lit _ => 1
  | .nil => 1
  | .ptr d => uptoBulk d + 1
  | .slice elems spare => uptoBulkAll elems + uptoBulkAll spare + 1
  | .agg parts => uptoBulkAll parts + 1
  | .iface _ d => uptoBulk d + 1
  | .map entries => uptoBulkEntries entries + 1
  | .held _ => 1
def uptoBulkAll {H : Type} : List (DataW H) → Nat
  | [] => 0
  | d :: r => uptoBulk d + uptoBulkAll r
def uptoBulkEntries {H : Type} : List (Lit × DataW H) → Nat
  | [] => 0
  | x :: r => uptoBulkEntry x + uptoBulkEntries r
def uptoBulkEntry {H : Type} : Lit × DataW H → Nat
  | (.string bytes, d) => bytes.length + uptoBulk d + 1
  | (_, d) => uptoBulk d + 1
 end
def uptoSmall : (H : Type) → List (DataW H) → Bool := fun _ ds => decide (uptoBulkAll ds ≤ 1048576)
def OpenSpec.upto (s : _root_.Go.ChangeSpec) : _root_.Go.OpenSpec := { _root_.Go.OpenSpec.ofChange s with cond := some uptoSmall }

/-- 'pliantlaw12.AreaAllocates', WHERE WHAT IT READS IS OF BULK AT MOST 1048576: true; the input reads as it did. -/
def areaAllocatesUptoRow : OpenClaim := { program := "ytcfmimfkaabmkaa", sum := "4362fcb2d1951c4a60e66b88978d530112da10749cfd7d58c66065df3c258665", func := "pliant/pliantlaw12.AreaAllocates", spec := "areaAllocates", inPlace := ["internal/abi.NoEscape", "internal/bytealg.MakeNoZero"], unfollowed := true, recurses := true, apart := false, narrowed := true }
def AreaAllocatesUptoSaid : Prop := areaAllocatesUptoRow.holds Try.pinned (OpenSpec.upto areaAllocatesSpec)

/-- 'pliantlaw12.AreaUndone', WHERE WHAT IT READS IS OF BULK AT MOST 1048576: true; the input reads as it did. -/
def areaUndoneUptoRow : OpenClaim := { program := "ytcfmimfkaabmkaa", sum := "4362fcb2d1951c4a60e66b88978d530112da10749cfd7d58c66065df3c258665", func := "pliant/pliantlaw12.AreaUndone", spec := "areaUndone", inPlace := ["internal/abi.NoEscape", "internal/bytealg.MakeNoZero"], unfollowed := true, recurses := true, apart := false, narrowed := true }
def AreaUndoneUptoSaid : Prop := areaUndoneUptoRow.holds Try.pinned (OpenSpec.upto areaUndoneSpec)

/-- 'pliantlaw12.AreaAssigns', WHERE WHAT IT READS IS OF BULK AT MOST 1048576: true; the input reads as it did. -/
def areaAssignsUptoRow : OpenClaim := { program := "ytcfmimfkaabmkaa", sum := "4362fcb2d1951c4a60e66b88978d530112da10749cfd7d58c66065df3c258665", func := "pliant/pliantlaw12.AreaAssigns", spec := "areaAssigns", inPlace := ["internal/abi.NoEscape", "internal/bytealg.MakeNoZero"], unfollowed := true, recurses := true, apart := false, narrowed := true }
def AreaAssignsUptoSaid : Prop := areaAssignsUptoRow.holds Try.pinned (OpenSpec.upto areaAssignsSpec)

/-- 'pliantlaw12.AreaCompacts', WHERE WHAT IT READS IS OF BULK AT MOST 1048576: true; the input reads as it did. -/
def areaCompactsUptoRow : OpenClaim := { program := "ytcfmimfkaabmkaa", sum := "4362fcb2d1951c4a60e66b88978d530112da10749cfd7d58c66065df3c258665", func := "pliant/pliantlaw12.AreaCompacts", spec := "areaCompacts", inPlace := ["internal/abi.NoEscape", "internal/bytealg.MakeNoZero"], unfollowed := true, recurses := true, apart := false, narrowed := true }
def AreaCompactsUptoSaid : Prop := areaCompactsUptoRow.holds Try.pinned (OpenSpec.upto areaCompactsSpec)

/-- 'pliantlaw12.AreaBuilds', WHERE WHAT IT READS IS OF BULK AT MOST 1048576: true; the input reads as it did. -/
def areaBuildsUptoRow : OpenClaim := { program := "ytcfmimfkaabmkaa", sum := "4362fcb2d1951c4a60e66b88978d530112da10749cfd7d58c66065df3c258665", func := "pliant/pliantlaw12.AreaBuilds", spec := "areaBuilds", inPlace := ["internal/abi.NoEscape", "internal/bytealg.MakeNoZero"], unfollowed := true, recurses := true, apart := false, narrowed := true }
def AreaBuildsUptoSaid : Prop := areaBuildsUptoRow.holds Try.pinned (OpenSpec.upto areaBuildsSpec)

/-- 'pliantlaw12.AreaResized', WHERE WHAT IT READS IS OF BULK AT MOST 1048576: true; the input reads as it did. -/
def areaResizedUptoRow : OpenClaim := { program := "ytcfmimfkaabmkaa", sum := "4362fcb2d1951c4a60e66b88978d530112da10749cfd7d58c66065df3c258665", func := "pliant/pliantlaw12.AreaResized", spec := "areaResized", inPlace := ["internal/abi.NoEscape", "internal/bytealg.MakeNoZero"], unfollowed := true, recurses := true, apart := false, narrowed := true }
def AreaResizedUptoSaid : Prop := areaResizedUptoRow.holds Try.pinned (OpenSpec.upto areaResizedSpec)

/-- 'pliantlaw12.AreaReads', WHERE WHAT IT READS IS OF BULK AT MOST 1048576: true; the input reads as it did. -/
def areaReadsUptoRow : OpenClaim := { program := "ytcfmimfkaabmkaa", sum := "4362fcb2d1951c4a60e66b88978d530112da10749cfd7d58c66065df3c258665", func := "pliant/pliantlaw12.AreaReads", spec := "areaReads", inPlace := ["internal/abi.NoEscape", "internal/bytealg.MakeNoZero"], unfollowed := true, recurses := true, apart := false, narrowed := true }
def AreaReadsUptoSaid : Prop := areaReadsUptoRow.holds Try.pinned (OpenSpec.upto areaReadsSpec)

/-- 'pliantlaw12.AreaForms', WHERE WHAT IT READS IS OF BULK AT MOST 1048576: true; the input reads as it did. -/
def areaFormsUptoRow : OpenClaim := { program := "ytcfmimfkaabmkaa", sum := "4362fcb2d1951c4a60e66b88978d530112da10749cfd7d58c66065df3c258665", func := "pliant/pliantlaw12.AreaForms", spec := "areaForms", inPlace := ["internal/abi.NoEscape", "internal/bytealg.MakeNoZero"], unfollowed := true, recurses := true, apart := false, narrowed := true }
def AreaFormsUptoSaid : Prop := areaFormsUptoRow.holds Try.pinned (OpenSpec.upto areaFormsSpec)

/-- 'pliantlaw12.AreaApart', WHERE WHAT IT READS IS OF BULK AT MOST 1048576: true; the input reads as it did. -/
def areaApartUptoRow : OpenClaim := { program := "ytcfmimfkaabmkaa", sum := "4362fcb2d1951c4a60e66b88978d530112da10749cfd7d58c66065df3c258665", func := "pliant/pliantlaw12.AreaApart", spec := "areaApart", inPlace := ["internal/abi.NoEscape", "internal/bytealg.MakeNoZero"], unfollowed := true, recurses := true, apart := false, narrowed := true }
def AreaApartUptoSaid : Prop := areaApartUptoRow.holds Try.pinned (OpenSpec.upto areaApartSpec)

/-- 'pliantlaw12.AreaReached', WHERE WHAT IT READS IS OF BULK AT MOST 1048576: true; the input reads as it did. -/
def areaReachedUptoRow : OpenClaim := { program := "ytcfmimfkaabmkaa", sum := "4362fcb2d1951c4a60e66b88978d530112da10749cfd7d58c66065df3c258665", func := "pliant/pliantlaw12.AreaReached", spec := "areaReached", inPlace := ["internal/abi.NoEscape", "internal/bytealg.MakeNoZero"], unfollowed := true, recurses := true, apart := false, narrowed := true }
def AreaReachedUptoSaid : Prop := areaReachedUptoRow.holds Try.pinned (OpenSpec.upto areaReachedSpec)

/-- 'pliantlaw12.AreaRoom', WHERE WHAT IT READS IS OF BULK AT MOST 1048576: true; the input reads as it did. -/
def areaRoomUptoRow : OpenClaim := { program := "ytcfmimfkaabmkaa", sum := "4362fcb2d1951c4a60e66b88978d530112da10749cfd7d58c66065df3c258665", func := "pliant/pliantlaw12.AreaRoom", spec := "areaRoom", inPlace := ["internal/abi.NoEscape", "internal/bytealg.MakeNoZero"], unfollowed := true, recurses := true, apart := false, narrowed := true }
def AreaRoomUptoSaid : Prop := areaRoomUptoRow.holds Try.pinned (OpenSpec.upto areaRoomSpec)

/-- 'pliantlaw12.AreaOneForm', WHERE WHAT IT READS IS OF BULK AT MOST 1048576: true; the input reads as it did. -/
def areaOneFormUptoRow : OpenClaim := { program := "ytcfmimfkaabmkaa", sum := "4362fcb2d1951c4a60e66b88978d530112da10749cfd7d58c66065df3c258665", func := "pliant/pliantlaw12.AreaOneForm", spec := "areaOneForm", inPlace := ["internal/abi.NoEscape", "internal/bytealg.MakeNoZero"], unfollowed := true, recurses := true, apart := false, narrowed := true }
def AreaOneFormUptoSaid : Prop := areaOneFormUptoRow.holds Try.pinned (OpenSpec.upto areaOneFormSpec)

/-- 'pliantlaw12.AreaFirstFit', WHERE WHAT IT READS IS OF BULK AT MOST 1048576: true; the input reads as it did. -/
def areaFirstFitUptoRow : OpenClaim := { program := "ytcfmimfkaabmkaa", sum := "4362fcb2d1951c4a60e66b88978d530112da10749cfd7d58c66065df3c258665", func := "pliant/pliantlaw12.AreaFirstFit", spec := "areaFirstFit", inPlace := ["internal/abi.NoEscape", "internal/bytealg.MakeNoZero"], unfollowed := true, recurses := true, apart := false, narrowed := true }
def AreaFirstFitUptoSaid : Prop := areaFirstFitUptoRow.holds Try.pinned (OpenSpec.upto areaFirstFitSpec)

/-- 'pliantlaw12.AreaKeeps', WHERE WHAT IT READS IS OF BULK AT MOST 1048576: true; the input reads as it did. -/
def areaKeepsUptoRow : OpenClaim := { program := "ytcfmimfkaabmkaa", sum := "4362fcb2d1951c4a60e66b88978d530112da10749cfd7d58c66065df3c258665", func := "pliant/pliantlaw12.AreaKeeps", spec := "areaKeeps", inPlace := ["internal/abi.NoEscape", "internal/bytealg.MakeNoZero"], unfollowed := true, recurses := true, apart := false, narrowed := true }
def AreaKeepsUptoSaid : Prop := areaKeepsUptoRow.holds Try.pinned (OpenSpec.upto areaKeepsSpec)

/-- 'pliantlaw12.AreaMoved', WHERE WHAT IT READS IS OF BULK AT MOST 1048576: true; the input reads as it did. -/
def areaMovedUptoRow : OpenClaim := { program := "ytcfmimfkaabmkaa", sum := "4362fcb2d1951c4a60e66b88978d530112da10749cfd7d58c66065df3c258665", func := "pliant/pliantlaw12.AreaMoved", spec := "areaMoved", inPlace := ["internal/abi.NoEscape", "internal/bytealg.MakeNoZero"], unfollowed := true, recurses := true, apart := false, narrowed := true }
def AreaMovedUptoSaid : Prop := areaMovedUptoRow.holds Try.pinned (OpenSpec.upto areaMovedSpec)

/-- 'pliantlaw12.AreaRefuses', WHERE WHAT IT READS IS OF BULK AT MOST 1048576: true; the input reads as it did. -/
def areaRefusesUptoRow : OpenClaim := { program := "ytcfmimfkaabmkaa", sum := "4362fcb2d1951c4a60e66b88978d530112da10749cfd7d58c66065df3c258665", func := "pliant/pliantlaw12.AreaRefuses", spec := "areaRefuses", inPlace := ["internal/abi.NoEscape", "internal/bytealg.MakeNoZero"], unfollowed := true, recurses := true, apart := false, narrowed := true }
def AreaRefusesUptoSaid : Prop := areaRefusesUptoRow.holds Try.pinned (OpenSpec.upto areaRefusesSpec)

end Rows
end Go.Proofs.Ytcfmimfkaabmkaa
