/-
  No cell of these rows narrows 'for every input' (looked for: loops, veiled, ifaces, maps, wideKeys, modest, calm, conditions, laid).
  DERIVED. THE GIVEN ROWS OF THIS SEAT. 2 by the template 'for every input the law returns true; each argument reads behind the call as it read before'; 0 by the template 'total and deterministic' (their statements: YtifcgimpgbeocaaGreatTotals.lean).
  GIVEN WITH THE SEED: the statements are not yours to turn. If you find one false, say at which input.
  Laid BY PROGRAM, IN A SANDBOX (cutbox-rows.mjs): the forced cells as the released guide's own fill.sh prints them over the translation 44ef3e9b4def5387… (all of the seat's roots in one cut). By AI agents, Wed Nov 11 2026. No macro, syntax, notation, axiom, sorry.
-/
import Derived.Test.YtifcgimpgbeocaaGreatChecked
import GoSem.Claim
import GoSem.ClaimJoined
import GoSem.ClaimMapViews
import Derived.JoinedTies
import Derived.KernelRfl
namespace Go.Proofs.YtifcgimpgbeocaaGreat
/- THE CELL 'sum', in the pinned program and in every row, IS THE sha256 OF THE DUMP (.gsa) THAT YtifcgimpgbeocaaGreatProg.lean LOADS. Nothing in Lean hashes anything: it is a label: what it is worth is what the hold of that sum in a sandbox is worth. -/
noncomputable def Tryz.pinned : Pinned := { name := "ytifcgimpgbeocaagreat", sum := "44ef3e9b4def5387f09ae2c7208fc2d422ff4baa4971f0d3f169e22552b78b8a", checked := Tryz.checked }
namespace Rows
def none {H : Type} : Left H := { results := [], args := [] }

/-- 'pliantlaw14.FilesOpens': WHATEVER THE INPUT: true; the input reads as it did. -/
def filesOpensSpec : ChangeSpec := { name := "filesOpens", fn := fun _ => fun
  | [d1, d2, d3] => { results := [.lit (.bool true)], args := [d1, d2, d3] }
  | _ => none }
def filesOpensRow : OpenClaim := { program := "ytifcgimpgbeocaagreat", sum := "44ef3e9b4def5387f09ae2c7208fc2d422ff4baa4971f0d3f169e22552b78b8a", func := "pliant/pliantlaw14.FilesOpens", spec := "filesOpens", inPlace := ["slices.overlaps[pliant/api.Record]", "internal/abi.NoEscape", "internal/bytealg.MakeNoZero"], unfollowed := true, recurses := true, apart := false }
def FilesOpensSaid : Prop := filesOpensRow.holds Tryz.pinned (OpenSpec.ofChange filesOpensSpec)

/-- ITS FALSE NEIGHBOUR: 'it returns false'. Refute it at one input. -/
def filesOpensWrong : ChangeSpec := { name := "filesOpens", fn := fun _ => fun
  | [d1, d2, d3] => { results := [.lit (.bool false)], args := [d1, d2, d3] }
  | _ => none }
def FilesOpensWrongFalsely : Prop := filesOpensRow.holds Tryz.pinned (OpenSpec.ofChange filesOpensWrong)

/-- 'pliantlaw14.FilesStores': WHATEVER THE INPUT: true; the input reads as it did. -/
def filesStoresSpec : ChangeSpec := { name := "filesStores", fn := fun _ => fun
  | [d] => { results := [.lit (.bool true)], args := [d] }
  | _ => none }
def filesStoresRow : OpenClaim := { program := "ytifcgimpgbeocaagreat", sum := "44ef3e9b4def5387f09ae2c7208fc2d422ff4baa4971f0d3f169e22552b78b8a", func := "pliant/pliantlaw14.FilesStores", spec := "filesStores", inPlace := ["slices.overlaps[pliant/api.Record]", "internal/abi.NoEscape", "internal/bytealg.MakeNoZero"], unfollowed := true, recurses := true, apart := false }
def FilesStoresSaid : Prop := filesStoresRow.holds Tryz.pinned (OpenSpec.ofChange filesStoresSpec)

/-- ITS FALSE NEIGHBOUR: 'it returns false'. Refute it at one input. -/
def filesStoresWrong : ChangeSpec := { name := "filesStores", fn := fun _ => fun
  | [d] => { results := [.lit (.bool false)], args := [d] }
  | _ => none }
def FilesStoresWrongFalsely : Prop := filesStoresRow.holds Tryz.pinned (OpenSpec.ofChange filesStoresWrong)

/- THE SECOND FORM. 'bulk': how many values and letters a reading holds, each counted each time it is reached (what is shared counts as often as it is met; a slice's spare places count too). A statement '..UptoSaid' is the law's where the arguments, and the package variables that the reading takes, are together of bulk at most 1048576: NARROWER than '..Said'. Prove '..Said' where nothing that the law and all that it calls make is longer than what came in: it says more and counts as full. Else prove '..UptoSaid'. A law counts once. -/
mutual
def uptoBulk {H : Type} : DataW H → Nat
  | .lit (.string bytes) => bytes.length + 1
  | .lit _ => 1
  | .nil => 1
  | .ptr d => uptoBulk d + 1
  | .slice elems spare => uptoBulkAll elems + uptoBulkAll spare + 1
  | .agg parts => uptoBulkAll parts + 1
  | .iface _ d => uptoBulk d + 1
  | .map entries => uptoBulkEntries entries + 1
  | .held _ => 1
def uptoBulkAll {H : Type} : List (DataW H) → Nat
  | [] => 0
  | d :: r => uptoBulk d + uptoBulkAll r
def uptoBulkEntries {H : Type} : List (Lit × DataW H) → Nat
  | [] => 0
  | x :: r => uptoBulkEntry x + uptoBulkEntries r
def uptoBulkEntry {H : Type} : Lit × DataW H → Nat
  | (.string bytes, d) => bytes.length + uptoBulk d + 1
  | (_, d) => uptoBulk d + 1
 end
def uptoSmall : (H : Type) → List (DataW H) → Bool := fun _ ds => decide (uptoBulkAll ds ≤ 1048576)
def OpenSpec.upto (s : _root_.Go.ChangeSpec) : _root_.Go.OpenSpec := { _root_.Go.OpenSpec.ofChange s with cond := some uptoSmall }

/-- 'pliantlaw14.FilesOpens', WHERE WHAT IT READS IS OF BULK AT MOST 1048576: true; the input reads as it did. -/
def filesOpensUptoRow : OpenClaim := { program := "ytifcgimpgbeocaagreat", sum := "44ef3e9b4def5387f09ae2c7208fc2d422ff4baa4971f0d3f169e22552b78b8a", func := "pliant/pliantlaw14.FilesOpens", spec := "filesOpens", inPlace := ["slices.overlaps[pliant/api.Record]", "internal/abi.NoEscape", "internal/bytealg.MakeNoZero"], unfollowed := true, recurses := true, apart := false, narrowed := true }
def FilesOpensUptoSaid : Prop := filesOpensUptoRow.holds Tryz.pinned (OpenSpec.upto filesOpensSpec)

/-- 'pliantlaw14.FilesStores', WHERE WHAT IT READS IS OF BULK AT MOST 1048576: true; the input reads as it did. -/
def filesStoresUptoRow : OpenClaim := { program := "ytifcgimpgbeocaagreat", sum := "44ef3e9b4def5387f09ae2c7208fc2d422ff4baa4971f0d3f169e22552b78b8a", func := "pliant/pliantlaw14.FilesStores", spec := "filesStores", inPlace := ["slices.overlaps[pliant/api.Record]", "internal/abi.NoEscape", "internal/bytealg.MakeNoZero"], unfollowed := true, recurses := true, apart := false, narrowed := true }
def FilesStoresUptoSaid : Prop := filesStoresUptoRow.holds Tryz.pinned (OpenSpec.upto filesStoresSpec)

end Rows
end Go.Proofs.YtifcgimpgbeocaaGreat
