/-
  No cell of these rows narrows 'for every input' (looked for: loops, veiled, ifaces, maps, wideKeys, modest, calm, conditions, laid).
  DERIVED. THE GIVEN ROWS OF THIS SEAT. 9 by the template 'for every input the law returns true; each argument reads behind the call as it read before'; 0 by the template 'total and deterministic' (their statements: YtnmmbcgbijinpaaTotals.lean).
  GIVEN WITH THE SEED: the statements are not yours to turn. If you find one false, say at which input.
  Laid BY PROGRAM, IN A SANDBOX (cutbox-rows.mjs): the forced cells as the released guide's own fill.sh prints them over the translation 636d7dcb60bceb98… (all of the seat's roots in one cut). By AI agents, Wed Nov 11 2026. No macro, syntax, notation, axiom, sorry.
-/
import Derived.Test.YtnmmbcgbijinpaaChecked
import GoSem.Claim
import GoSem.ClaimJoined
import GoSem.ClaimMapViews
import Derived.JoinedTies
import Derived.KernelRfl
namespace Go.Proofs.Ytnmmbcgbijinpaa
/- THE CELL 'sum', in the pinned program and in every row, IS THE sha256 OF THE DUMP (.gsa) THAT YtnmmbcgbijinpaaProg.lean LOADS. Nothing in Lean hashes anything: it is a label: what it is worth is what the hold of that sum in a sandbox is worth. -/
noncomputable def Try.pinned : Pinned := { name := "ytnmmbcgbijinpaa", sum := "636d7dcb60bceb989e6c2d26d54873255f850bc2b920156c7a435d2ca3b8d677", checked := Try.checked }
namespace Rows
def none {H : Type} : Left H := { results := [], args := [] }

/-- 'garmentlaw10.PolylineChecks': WHATEVER THE INPUT: true; the input reads as it did. -/
def polylineChecksSpec : ChangeSpec := { name := "polylineChecks", fn := fun _ => fun
  | [d] => { results := [.lit (.bool true)], args := [d] }
  | _ => none }
def polylineChecksRow : OpenClaim := { program := "ytnmmbcgbijinpaa", sum := "636d7dcb60bceb989e6c2d26d54873255f850bc2b920156c7a435d2ca3b8d677", func := "garment/garmentlaw10.PolylineChecks", spec := "polylineChecks", unfollowed := true, recurses := true, apart := false }
def PolylineChecksSaid : Prop := polylineChecksRow.holds Try.pinned (OpenSpec.ofChange polylineChecksSpec)

/-- ITS FALSE NEIGHBOUR: 'it returns false'. Refute it at one input. -/
def polylineChecksWrong : ChangeSpec := { name := "polylineChecks", fn := fun _ => fun
  | [d] => { results := [.lit (.bool false)], args := [d] }
  | _ => none }
def PolylineChecksWrongFalsely : Prop := polylineChecksRow.holds Try.pinned (OpenSpec.ofChange polylineChecksWrong)

/-- 'garmentlaw10.PolylineAlongs': WHATEVER THE INPUT: true; the input reads as it did. -/
def polylineAlongsSpec : ChangeSpec := { name := "polylineAlongs", fn := fun _ => fun
  | [d1, d2] => { results := [.lit (.bool true)], args := [d1, d2] }
  | _ => none }
def polylineAlongsRow : OpenClaim := { program := "ytnmmbcgbijinpaa", sum := "636d7dcb60bceb989e6c2d26d54873255f850bc2b920156c7a435d2ca3b8d677", func := "garment/garmentlaw10.PolylineAlongs", spec := "polylineAlongs", unfollowed := true, recurses := true, apart := false }
def PolylineAlongsSaid : Prop := polylineAlongsRow.holds Try.pinned (OpenSpec.ofChange polylineAlongsSpec)

/-- ITS FALSE NEIGHBOUR: 'it returns false'. Refute it at one input. -/
def polylineAlongsWrong : ChangeSpec := { name := "polylineAlongs", fn := fun _ => fun
  | [d1, d2] => { results := [.lit (.bool false)], args := [d1, d2] }
  | _ => none }
def PolylineAlongsWrongFalsely : Prop := polylineAlongsRow.holds Try.pinned (OpenSpec.ofChange polylineAlongsWrong)

/-- 'garmentlaw10.PolylineDivides': WHATEVER THE INPUT: true; the input reads as it did. -/
def polylineDividesSpec : ChangeSpec := { name := "polylineDivides", fn := fun _ => fun
  | [d1, d2] => { results := [.lit (.bool true)], args := [d1, d2] }
  | _ => none }
def polylineDividesRow : OpenClaim := { program := "ytnmmbcgbijinpaa", sum := "636d7dcb60bceb989e6c2d26d54873255f850bc2b920156c7a435d2ca3b8d677", func := "garment/garmentlaw10.PolylineDivides", spec := "polylineDivides", unfollowed := true, recurses := true, apart := false }
def PolylineDividesSaid : Prop := polylineDividesRow.holds Try.pinned (OpenSpec.ofChange polylineDividesSpec)

/-- ITS FALSE NEIGHBOUR: 'it returns false'. Refute it at one input. -/
def polylineDividesWrong : ChangeSpec := { name := "polylineDivides", fn := fun _ => fun
  | [d1, d2] => { results := [.lit (.bool false)], args := [d1, d2] }
  | _ => none }
def PolylineDividesWrongFalsely : Prop := polylineDividesRow.holds Try.pinned (OpenSpec.ofChange polylineDividesWrong)

/-- 'garmentlaw10.PolylineCuts': WHATEVER THE INPUT: true; the input reads as it did. -/
def polylineCutsSpec : ChangeSpec := { name := "polylineCuts", fn := fun _ => fun
  | [d1, d2] => { results := [.lit (.bool true)], args := [d1, d2] }
  | _ => none }
def polylineCutsRow : OpenClaim := { program := "ytnmmbcgbijinpaa", sum := "636d7dcb60bceb989e6c2d26d54873255f850bc2b920156c7a435d2ca3b8d677", func := "garment/garmentlaw10.PolylineCuts", spec := "polylineCuts", unfollowed := true, recurses := true, apart := false }
def PolylineCutsSaid : Prop := polylineCutsRow.holds Try.pinned (OpenSpec.ofChange polylineCutsSpec)

/-- ITS FALSE NEIGHBOUR: 'it returns false'. Refute it at one input. -/
def polylineCutsWrong : ChangeSpec := { name := "polylineCuts", fn := fun _ => fun
  | [d1, d2] => { results := [.lit (.bool false)], args := [d1, d2] }
  | _ => none }
def PolylineCutsWrongFalsely : Prop := polylineCutsRow.holds Try.pinned (OpenSpec.ofChange polylineCutsWrong)

/-- 'garmentlaw10.PolylineVertices': WHATEVER THE INPUT: true; the input reads as it did. -/
def polylineVerticesSpec : ChangeSpec := { name := "polylineVertices", fn := fun _ => fun
  | [d1, d2] => { results := [.lit (.bool true)], args := [d1, d2] }
  | _ => none }
def polylineVerticesRow : OpenClaim := { program := "ytnmmbcgbijinpaa", sum := "636d7dcb60bceb989e6c2d26d54873255f850bc2b920156c7a435d2ca3b8d677", func := "garment/garmentlaw10.PolylineVertices", spec := "polylineVertices", unfollowed := true, recurses := true, apart := false }
def PolylineVerticesSaid : Prop := polylineVerticesRow.holds Try.pinned (OpenSpec.ofChange polylineVerticesSpec)

/-- ITS FALSE NEIGHBOUR: 'it returns false'. Refute it at one input. -/
def polylineVerticesWrong : ChangeSpec := { name := "polylineVertices", fn := fun _ => fun
  | [d1, d2] => { results := [.lit (.bool false)], args := [d1, d2] }
  | _ => none }
def PolylineVerticesWrongFalsely : Prop := polylineVerticesRow.holds Try.pinned (OpenSpec.ofChange polylineVerticesWrong)

/-- 'garmentlaw10.PolylineReverses': WHATEVER THE INPUT: true; the input reads as it did. -/
def polylineReversesSpec : ChangeSpec := { name := "polylineReverses", fn := fun _ => fun
  | [d1, d2] => { results := [.lit (.bool true)], args := [d1, d2] }
  | _ => none }
def polylineReversesRow : OpenClaim := { program := "ytnmmbcgbijinpaa", sum := "636d7dcb60bceb989e6c2d26d54873255f850bc2b920156c7a435d2ca3b8d677", func := "garment/garmentlaw10.PolylineReverses", spec := "polylineReverses", unfollowed := true, recurses := true, apart := false }
def PolylineReversesSaid : Prop := polylineReversesRow.holds Try.pinned (OpenSpec.ofChange polylineReversesSpec)

/-- ITS FALSE NEIGHBOUR: 'it returns false'. Refute it at one input. -/
def polylineReversesWrong : ChangeSpec := { name := "polylineReverses", fn := fun _ => fun
  | [d1, d2] => { results := [.lit (.bool false)], args := [d1, d2] }
  | _ => none }
def PolylineReversesWrongFalsely : Prop := polylineReversesRow.holds Try.pinned (OpenSpec.ofChange polylineReversesWrong)

/-- 'garmentlaw10.PolylineCleans': WHATEVER THE INPUT: true; the input reads as it did. -/
def polylineCleansSpec : ChangeSpec := { name := "polylineCleans", fn := fun _ => fun
  | [d] => { results := [.lit (.bool true)], args := [d] }
  | _ => none }
def polylineCleansRow : OpenClaim := { program := "ytnmmbcgbijinpaa", sum := "636d7dcb60bceb989e6c2d26d54873255f850bc2b920156c7a435d2ca3b8d677", func := "garment/garmentlaw10.PolylineCleans", spec := "polylineCleans", unfollowed := true, recurses := true, apart := false }
def PolylineCleansSaid : Prop := polylineCleansRow.holds Try.pinned (OpenSpec.ofChange polylineCleansSpec)

/-- ITS FALSE NEIGHBOUR: 'it returns false'. Refute it at one input. -/
def polylineCleansWrong : ChangeSpec := { name := "polylineCleans", fn := fun _ => fun
  | [d] => { results := [.lit (.bool false)], args := [d] }
  | _ => none }
def PolylineCleansWrongFalsely : Prop := polylineCleansRow.holds Try.pinned (OpenSpec.ofChange polylineCleansWrong)

/-- 'garmentlaw10.PolylineChanges': WHATEVER THE INPUT: true; the input reads as it did. -/
def polylineChangesSpec : ChangeSpec := { name := "polylineChanges", fn := fun _ => fun
  | [d1, d2] => { results := [.lit (.bool true)], args := [d1, d2] }
  | _ => none }
def polylineChangesRow : OpenClaim := { program := "ytnmmbcgbijinpaa", sum := "636d7dcb60bceb989e6c2d26d54873255f850bc2b920156c7a435d2ca3b8d677", func := "garment/garmentlaw10.PolylineChanges", spec := "polylineChanges", unfollowed := true, recurses := true, apart := false }
def PolylineChangesSaid : Prop := polylineChangesRow.holds Try.pinned (OpenSpec.ofChange polylineChangesSpec)

/-- ITS FALSE NEIGHBOUR: 'it returns false'. Refute it at one input. -/
def polylineChangesWrong : ChangeSpec := { name := "polylineChanges", fn := fun _ => fun
  | [d1, d2] => { results := [.lit (.bool false)], args := [d1, d2] }
  | _ => none }
def PolylineChangesWrongFalsely : Prop := polylineChangesRow.holds Try.pinned (OpenSpec.ofChange polylineChangesWrong)

/-- 'garmentlaw10.PolylineShifts': WHATEVER THE INPUT: true; the input reads as it did. -/
def polylineShiftsSpec : ChangeSpec := { name := "polylineShifts", fn := fun _ => fun
  | [d1, d2, d3] => { results := [.lit (.bool true)], args := [d1, d2, d3] }
  | _ => none }
def polylineShiftsRow : OpenClaim := { program := "ytnmmbcgbijinpaa", sum := "636d7dcb60bceb989e6c2d26d54873255f850bc2b920156c7a435d2ca3b8d677", func := "garment/garmentlaw10.PolylineShifts", spec := "polylineShifts", unfollowed := true, recurses := true, apart := false }
def PolylineShiftsSaid : Prop := polylineShiftsRow.holds Try.pinned (OpenSpec.ofChange polylineShiftsSpec)

/-- ITS FALSE NEIGHBOUR: 'it returns false'. Refute it at one input. -/
def polylineShiftsWrong : ChangeSpec := { name := "polylineShifts", fn := fun _ => fun
  | [d1, d2, d3] => { results := [.lit (.bool false)], args := [d1, d2, d3] }
  | _ => none }
def PolylineShiftsWrongFalsely : Prop := polylineShiftsRow.holds Try.pinned (OpenSpec.ofChange polylineShiftsWrong)

/- THE SECOND FORM. 'bulk': how many values and letters a reading holds, each counted each time it is reached (what is shared counts as often as it is met; a slice's spare places count too). A statement '..UptoSaid' is the law's where the arguments, and the package variables that the reading takes, are together of bulk at most 1048576: NARROWER than '..Said'. Prove '..Said' where nothing that the law and all that it calls make is longer than what came in: it says more and counts as full. Else prove '..UptoSaid'. A law counts once. -/
mutual
def uptoBulk {H : Type} : DataW H → Nat
  | .lit (.string bytes) => bytes.length + 1
  | .lit _ => 1
  | .nil => 1
  | .ptr d => uptoBulk d + 1
  | .slice elems spare => uptoBulkAll elems + uptoBulkAll spare + 1
  | .agg parts => uptoBulkAll parts + 1
  | .iface _ d => uptoBulk d + 1
  | .map entries => uptoBulkEntries entries + 1
  | .held _ => 1
def uptoBulkAll {H : Type} : List (DataW H) → Nat
  | [] => 0
  | d :: r => uptoBulk d + uptoBulkAll r
def uptoBulkEntries {H : Type} : List (Lit × DataW H) → Nat
  | [] => 0
  | x :: r => uptoBulkEntry x + uptoBulkEntries r
def uptoBulkEntry {H : Type} : Lit × DataW H → Nat
  | (.string bytes, d) => bytes.length + uptoBulk d + 1
  | (_, d) => uptoBulk d + 1
 end
def uptoSmall : (H : Type) → List (DataW H) → Bool := fun _ ds => decide (uptoBulkAll ds ≤ 1048576)
def OpenSpec.upto (s : _root_.Go.ChangeSpec) : _root_.Go.OpenSpec := { _root_.Go.OpenSpec.ofChange s with cond := some uptoSmall }

/-- 'garmentlaw10.PolylineChecks', WHERE WHAT IT READS IS OF BULK AT MOST 1048576: true; the input reads as it did. -/
def polylineChecksUptoRow : OpenClaim := { program := "ytnmmbcgbijinpaa", sum := "636d7dcb60bceb989e6c2d26d54873255f850bc2b920156c7a435d2ca3b8d677", func := "garment/garmentlaw10.PolylineChecks", spec := "polylineChecks", unfollowed := true, recurses := true, apart := false, narrowed := true }
def PolylineChecksUptoSaid : Prop := polylineChecksUptoRow.holds Try.pinned (OpenSpec.upto polylineChecksSpec)

/-- 'garmentlaw10.PolylineAlongs', WHERE WHAT IT READS IS OF BULK AT MOST 1048576: true; the input reads as it did. -/
def polylineAlongsUptoRow : OpenClaim := { program := "ytnmmbcgbijinpaa", sum := "636d7dcb60bceb989e6c2d26d54873255f850bc2b920156c7a435d2ca3b8d677", func := "garment/garmentlaw10.PolylineAlongs", spec := "polylineAlongs", unfollowed := true, recurses := true, apart := false, narrowed := true }
def PolylineAlongsUptoSaid : Prop := polylineAlongsUptoRow.holds Try.pinned (OpenSpec.upto polylineAlongsSpec)

/-- 'garmentlaw10.PolylineDivides', WHERE WHAT IT READS IS OF BULK AT MOST 1048576: true; the input reads as it did. -/
def polylineDividesUptoRow : OpenClaim := { program := "ytnmmbcgbijinpaa", sum := "636d7dcb60bceb989e6c2d26d54873255f850bc2b920156c7a435d2ca3b8d677", func := "garment/garmentlaw10.PolylineDivides", spec := "polylineDivides", unfollowed := true, recurses := true, apart := false, narrowed := true }
def PolylineDividesUptoSaid : Prop := polylineDividesUptoRow.holds Try.pinned (OpenSpec.upto polylineDividesSpec)

/-- 'garmentlaw10.PolylineCuts', WHERE WHAT IT READS IS OF BULK AT MOST 1048576: true; the input reads as it did. -/
def polylineCutsUptoRow : OpenClaim := { program := "ytnmmbcgbijinpaa", sum := "636d7dcb60bceb989e6c2d26d54873255f850bc2b920156c7a435d2ca3b8d677", func := "garment/garmentlaw10.PolylineCuts", spec := "polylineCuts", unfollowed := true, recurses := true, apart := false, narrowed := true }
def PolylineCutsUptoSaid : Prop := polylineCutsUptoRow.holds Try.pinned (OpenSpec.upto polylineCutsSpec)

/-- 'garmentlaw10.PolylineVertices', WHERE WHAT IT READS IS OF BULK AT MOST 1048576: true; the input reads as it did. -/
def polylineVerticesUptoRow : OpenClaim := { program := "ytnmmbcgbijinpaa", sum := "636d7dcb60bceb989e6c2d26d54873255f850bc2b920156c7a435d2ca3b8d677", func := "garment/garmentlaw10.PolylineVertices", spec := "polylineVertices", unfollowed := true, recurses := true, apart := false, narrowed := true }
def PolylineVerticesUptoSaid : Prop := polylineVerticesUptoRow.holds Try.pinned (OpenSpec.upto polylineVerticesSpec)

/-- 'garmentlaw10.PolylineReverses', WHERE WHAT IT READS IS OF BULK AT MOST 1048576: true; the input reads as it did. -/
def polylineReversesUptoRow : OpenClaim := { program := "ytnmmbcgbijinpaa", sum := "636d7dcb60bceb989e6c2d26d54873255f850bc2b920156c7a435d2ca3b8d677", func := "garment/garmentlaw10.PolylineReverses", spec := "polylineReverses", unfollowed := true, recurses := true, apart := false, narrowed := true }
def PolylineReversesUptoSaid : Prop := polylineReversesUptoRow.holds Try.pinned (OpenSpec.upto polylineReversesSpec)

/-- 'garmentlaw10.PolylineCleans', WHERE WHAT IT READS IS OF BULK AT MOST 1048576: true; the input reads as it did. -/
def polylineCleansUptoRow : OpenClaim := { program := "ytnmmbcgbijinpaa", sum := "636d7dcb60bceb989e6c2d26d54873255f850bc2b920156c7a435d2ca3b8d677", func := "garment/garmentlaw10.PolylineCleans", spec := "polylineCleans", unfollowed := true, recurses := true, apart := false, narrowed := true }
def PolylineCleansUptoSaid : Prop := polylineCleansUptoRow.holds Try.pinned (OpenSpec.upto polylineCleansSpec)

/-- 'garmentlaw10.PolylineChanges', WHERE WHAT IT READS IS OF BULK AT MOST 1048576: true; the input reads as it did. -/
def polylineChangesUptoRow : OpenClaim := { program := "ytnmmbcgbijinpaa", sum := "636d7dcb60bceb989e6c2d26d54873255f850bc2b920156c7a435d2ca3b8d677", func := "garment/garmentlaw10.PolylineChanges", spec := "polylineChanges", unfollowed := true, recurses := true, apart := false, narrowed := true }
def PolylineChangesUptoSaid : Prop := polylineChangesUptoRow.holds Try.pinned (OpenSpec.upto polylineChangesSpec)

/-- 'garmentlaw10.PolylineShifts', WHERE WHAT IT READS IS OF BULK AT MOST 1048576: true; the input reads as it did. -/
def polylineShiftsUptoRow : OpenClaim := { program := "ytnmmbcgbijinpaa", sum := "636d7dcb60bceb989e6c2d26d54873255f850bc2b920156c7a435d2ca3b8d677", func := "garment/garmentlaw10.PolylineShifts", spec := "polylineShifts", unfollowed := true, recurses := true, apart := false, narrowed := true }
def PolylineShiftsUptoSaid : Prop := polylineShiftsUptoRow.holds Try.pinned (OpenSpec.upto polylineShiftsSpec)

end Rows
end Go.Proofs.Ytnmmbcgbijinpaa
