/-
  No cell of these rows narrows 'for every input' (looked for: loops, veiled, ifaces, maps, wideKeys, modest, calm, conditions, laid).
  DERIVED. THE GIVEN ROWS OF THIS SEAT. 8 by the template 'for every input the law returns true; each argument reads behind the call as it read before'; 0 by the template 'total and deterministic' (their statements: YtcolekfjmhgldaaTotals.lean).
  GIVEN WITH THE SEED: the statements are not yours to turn. If you find one false, say at which input.
  Laid BY PROGRAM, IN A SANDBOX (cutbox-rows.mjs): the forced cells as the released guide's own fill.sh prints them over the translation 25629aa4cc18f4e8… (all of the seat's roots in one cut). By AI agents, Wed Nov 11 2026. No macro, syntax, notation, axiom, sorry.
-/
import Derived.Test.YtcolekfjmhgldaaChecked
import GoSem.Claim
import GoSem.ClaimJoined
import GoSem.ClaimMapViews
import Derived.JoinedTies
import Derived.KernelRfl
namespace Go.Proofs.Ytcolekfjmhgldaa
/- THE CELL 'sum', in the pinned program and in every row, IS THE sha256 OF THE DUMP (.gsa) THAT YtcolekfjmhgldaaProg.lean LOADS. Nothing in Lean hashes anything: it is a label: what it is worth is what the hold of that sum in a sandbox is worth. -/
noncomputable def Try.pinned : Pinned := { name := "ytcolekfjmhgldaa", sum := "25629aa4cc18f4e872c3196d3a34d580f95e794899e3c974574795ab69c1eb19", checked := Try.checked }
namespace Rows
def none {H : Type} : Left H := { results := [], args := [] }

/-- 'garmenttop.TopRework': WHATEVER THE INPUT: true; the input reads as it did. -/
def topReworkSpec : ChangeSpec := { name := "topRework", fn := fun _ => fun
  | [d1, d2, d3] => { results := [.lit (.bool true)], args := [d1, d2, d3] }
  | _ => none }
def topReworkRow : OpenClaim := { program := "ytcolekfjmhgldaa", sum := "25629aa4cc18f4e872c3196d3a34d580f95e794899e3c974574795ab69c1eb19", func := "garment/garmenttop.TopRework", spec := "topRework", unfollowed := true, recurses := true, apart := false }
def TopReworkSaid : Prop := topReworkRow.holds Try.pinned (OpenSpec.ofChange topReworkSpec)

/-- ITS FALSE NEIGHBOUR: 'it returns false'. Refute it at one input. -/
def topReworkWrong : ChangeSpec := { name := "topRework", fn := fun _ => fun
  | [d1, d2, d3] => { results := [.lit (.bool false)], args := [d1, d2, d3] }
  | _ => none }
def TopReworkWrongFalsely : Prop := topReworkRow.holds Try.pinned (OpenSpec.ofChange topReworkWrong)

/-- 'garmentlaw51.ReworkSteps': WHATEVER THE INPUT: true; the input reads as it did. -/
def reworkStepsSpec : ChangeSpec := { name := "reworkSteps", fn := fun _ => fun
  | [d1, d2, d3] => { results := [.lit (.bool true)], args := [d1, d2, d3] }
  | _ => none }
def reworkStepsRow : OpenClaim := { program := "ytcolekfjmhgldaa", sum := "25629aa4cc18f4e872c3196d3a34d580f95e794899e3c974574795ab69c1eb19", func := "garment/garmentlaw51.ReworkSteps", spec := "reworkSteps", unfollowed := true, recurses := true, apart := false }
def ReworkStepsSaid : Prop := reworkStepsRow.holds Try.pinned (OpenSpec.ofChange reworkStepsSpec)

/-- ITS FALSE NEIGHBOUR: 'it returns false'. Refute it at one input. -/
def reworkStepsWrong : ChangeSpec := { name := "reworkSteps", fn := fun _ => fun
  | [d1, d2, d3] => { results := [.lit (.bool false)], args := [d1, d2, d3] }
  | _ => none }
def ReworkStepsWrongFalsely : Prop := reworkStepsRow.holds Try.pinned (OpenSpec.ofChange reworkStepsWrong)

/-- 'garmentlaw51.ReworkRuns': WHATEVER THE INPUT: true; the input reads as it did. -/
def reworkRunsSpec : ChangeSpec := { name := "reworkRuns", fn := fun _ => fun
  | [d1, d2, d3] => { results := [.lit (.bool true)], args := [d1, d2, d3] }
  | _ => none }
def reworkRunsRow : OpenClaim := { program := "ytcolekfjmhgldaa", sum := "25629aa4cc18f4e872c3196d3a34d580f95e794899e3c974574795ab69c1eb19", func := "garment/garmentlaw51.ReworkRuns", spec := "reworkRuns", unfollowed := true, recurses := true, apart := false }
def ReworkRunsSaid : Prop := reworkRunsRow.holds Try.pinned (OpenSpec.ofChange reworkRunsSpec)

/-- ITS FALSE NEIGHBOUR: 'it returns false'. Refute it at one input. -/
def reworkRunsWrong : ChangeSpec := { name := "reworkRuns", fn := fun _ => fun
  | [d1, d2, d3] => { results := [.lit (.bool false)], args := [d1, d2, d3] }
  | _ => none }
def ReworkRunsWrongFalsely : Prop := reworkRunsRow.holds Try.pinned (OpenSpec.ofChange reworkRunsWrong)

/-- 'garmentlaw51.ReworkOrder': WHATEVER THE INPUT: true; the input reads as it did. -/
def reworkOrderSpec : ChangeSpec := { name := "reworkOrder", fn := fun _ => fun
  | [d1, d2, d3] => { results := [.lit (.bool true)], args := [d1, d2, d3] }
  | _ => none }
def reworkOrderRow : OpenClaim := { program := "ytcolekfjmhgldaa", sum := "25629aa4cc18f4e872c3196d3a34d580f95e794899e3c974574795ab69c1eb19", func := "garment/garmentlaw51.ReworkOrder", spec := "reworkOrder", unfollowed := true, recurses := true, apart := false }
def ReworkOrderSaid : Prop := reworkOrderRow.holds Try.pinned (OpenSpec.ofChange reworkOrderSpec)

/-- ITS FALSE NEIGHBOUR: 'it returns false'. Refute it at one input. -/
def reworkOrderWrong : ChangeSpec := { name := "reworkOrder", fn := fun _ => fun
  | [d1, d2, d3] => { results := [.lit (.bool false)], args := [d1, d2, d3] }
  | _ => none }
def ReworkOrderWrongFalsely : Prop := reworkOrderRow.holds Try.pinned (OpenSpec.ofChange reworkOrderWrong)

/-- 'garmentlaw51.ReworkCounts': WHATEVER THE INPUT: true; the input reads as it did. -/
def reworkCountsSpec : ChangeSpec := { name := "reworkCounts", fn := fun _ => fun
  | [d1, d2, d3] => { results := [.lit (.bool true)], args := [d1, d2, d3] }
  | _ => none }
def reworkCountsRow : OpenClaim := { program := "ytcolekfjmhgldaa", sum := "25629aa4cc18f4e872c3196d3a34d580f95e794899e3c974574795ab69c1eb19", func := "garment/garmentlaw51.ReworkCounts", spec := "reworkCounts", unfollowed := true, recurses := true, apart := false }
def ReworkCountsSaid : Prop := reworkCountsRow.holds Try.pinned (OpenSpec.ofChange reworkCountsSpec)

/-- ITS FALSE NEIGHBOUR: 'it returns false'. Refute it at one input. -/
def reworkCountsWrong : ChangeSpec := { name := "reworkCounts", fn := fun _ => fun
  | [d1, d2, d3] => { results := [.lit (.bool false)], args := [d1, d2, d3] }
  | _ => none }
def ReworkCountsWrongFalsely : Prop := reworkCountsRow.holds Try.pinned (OpenSpec.ofChange reworkCountsWrong)

/-- 'garmentlaw51.ReworkBegins': WHATEVER THE INPUT: true; the input reads as it did. -/
def reworkBeginsSpec : ChangeSpec := { name := "reworkBegins", fn := fun _ => fun
  | [d1, d2, d3] => { results := [.lit (.bool true)], args := [d1, d2, d3] }
  | _ => none }
def reworkBeginsRow : OpenClaim := { program := "ytcolekfjmhgldaa", sum := "25629aa4cc18f4e872c3196d3a34d580f95e794899e3c974574795ab69c1eb19", func := "garment/garmentlaw51.ReworkBegins", spec := "reworkBegins", unfollowed := true, recurses := true, apart := false }
def ReworkBeginsSaid : Prop := reworkBeginsRow.holds Try.pinned (OpenSpec.ofChange reworkBeginsSpec)

/-- ITS FALSE NEIGHBOUR: 'it returns false'. Refute it at one input. -/
def reworkBeginsWrong : ChangeSpec := { name := "reworkBegins", fn := fun _ => fun
  | [d1, d2, d3] => { results := [.lit (.bool false)], args := [d1, d2, d3] }
  | _ => none }
def ReworkBeginsWrongFalsely : Prop := reworkBeginsRow.holds Try.pinned (OpenSpec.ofChange reworkBeginsWrong)

/-- 'garmentlaw51.ReworkOpen': WHATEVER THE INPUT: true; the input reads as it did. -/
def reworkOpenSpec : ChangeSpec := { name := "reworkOpen", fn := fun _ => fun
  | [d1, d2, d3] => { results := [.lit (.bool true)], args := [d1, d2, d3] }
  | _ => none }
def reworkOpenRow : OpenClaim := { program := "ytcolekfjmhgldaa", sum := "25629aa4cc18f4e872c3196d3a34d580f95e794899e3c974574795ab69c1eb19", func := "garment/garmentlaw51.ReworkOpen", spec := "reworkOpen", unfollowed := true, recurses := true, apart := false }
def ReworkOpenSaid : Prop := reworkOpenRow.holds Try.pinned (OpenSpec.ofChange reworkOpenSpec)

/-- ITS FALSE NEIGHBOUR: 'it returns false'. Refute it at one input. -/
def reworkOpenWrong : ChangeSpec := { name := "reworkOpen", fn := fun _ => fun
  | [d1, d2, d3] => { results := [.lit (.bool false)], args := [d1, d2, d3] }
  | _ => none }
def ReworkOpenWrongFalsely : Prop := reworkOpenRow.holds Try.pinned (OpenSpec.ofChange reworkOpenWrong)

/-- 'garmentlaw51.ReworkEnds': WHATEVER THE INPUT: true; the input reads as it did. -/
def reworkEndsSpec : ChangeSpec := { name := "reworkEnds", fn := fun _ => fun
  | [d1, d2, d3] => { results := [.lit (.bool true)], args := [d1, d2, d3] }
  | _ => none }
def reworkEndsRow : OpenClaim := { program := "ytcolekfjmhgldaa", sum := "25629aa4cc18f4e872c3196d3a34d580f95e794899e3c974574795ab69c1eb19", func := "garment/garmentlaw51.ReworkEnds", spec := "reworkEnds", unfollowed := true, recurses := true, apart := false }
def ReworkEndsSaid : Prop := reworkEndsRow.holds Try.pinned (OpenSpec.ofChange reworkEndsSpec)

/-- ITS FALSE NEIGHBOUR: 'it returns false'. Refute it at one input. -/
def reworkEndsWrong : ChangeSpec := { name := "reworkEnds", fn := fun _ => fun
  | [d1, d2, d3] => { results := [.lit (.bool false)], args := [d1, d2, d3] }
  | _ => none }
def ReworkEndsWrongFalsely : Prop := reworkEndsRow.holds Try.pinned (OpenSpec.ofChange reworkEndsWrong)

/- THE SECOND FORM. 'bulk': how many values and letters a reading holds, each counted each time it is reached (what is shared counts as often as it is met; a slice's spare places count too). A statement '..UptoSaid' is the law's where the arguments, and the package variables that the reading takes, are together of bulk at most 1048576: NARROWER than '..Said'. Prove '..Said' where nothing that the law and all that it calls make is longer than what came in: it says more and counts as full. Else prove '..UptoSaid'. A law counts once. -/
mutual
def uptoBulk {H : Type} : DataW H → Nat
  | .lit (.string bytes) => bytes.length + 1
  | .lit _ => 1
  | .nil => 1
  | .ptr d => uptoBulk d + 1
  | .slice elems spare => uptoBulkAll elems + uptoBulkAll spare + 1
  | .agg parts => uptoBulkAll parts + 1
  | .iface _ d => uptoBulk d + 1
  | .map entries => uptoBulkEntries entries + 1
  | .held _ => 1
def uptoBulkAll {H : Type} : List (DataW H) → Nat
  | [] => 0
  | d :: r => uptoBulk d + uptoBulkAll r
def uptoBulkEntries {H : Type} : List (Lit × DataW H) → Nat
  | [] => 0
  | x :: r => uptoBulkEntry x + uptoBulkEntries r
def uptoBulkEntry {H : Type} : Lit × DataW H → Nat
  | (.string bytes, d) => bytes.length + uptoBulk d + 1
  | (_, d) => uptoBulk d + 1
 end
def uptoSmall : (H : Type) → List (DataW H) → Bool := fun _ ds => decide (uptoBulkAll ds ≤ 1048576)
def OpenSpec.upto (s : _root_.Go.ChangeSpec) : _root_.Go.OpenSpec := { _root_.Go.OpenSpec.ofChange s with cond := some uptoSmall }

/-- 'garmenttop.TopRework', WHERE WHAT IT READS IS OF BULK AT MOST 1048576: true; the input reads as it did. -/
def topReworkUptoRow : OpenClaim := { program := "ytcolekfjmhgldaa", sum := "25629aa4cc18f4e872c3196d3a34d580f95e794899e3c974574795ab69c1eb19", func := "garment/garmenttop.TopRework", spec := "topRework", unfollowed := true, recurses := true, apart := false, narrowed := true }
def TopReworkUptoSaid : Prop := topReworkUptoRow.holds Try.pinned (OpenSpec.upto topReworkSpec)

/-- 'garmentlaw51.ReworkSteps', WHERE WHAT IT READS IS OF BULK AT MOST 1048576: true; the input reads as it did. -/
def reworkStepsUptoRow : OpenClaim := { program := "ytcolekfjmhgldaa", sum := "25629aa4cc18f4e872c3196d3a34d580f95e794899e3c974574795ab69c1eb19", func := "garment/garmentlaw51.ReworkSteps", spec := "reworkSteps", unfollowed := true, recurses := true, apart := false, narrowed := true }
def ReworkStepsUptoSaid : Prop := reworkStepsUptoRow.holds Try.pinned (OpenSpec.upto reworkStepsSpec)

/-- 'garmentlaw51.ReworkRuns', WHERE WHAT IT READS IS OF BULK AT MOST 1048576: true; the input reads as it did. -/
def reworkRunsUptoRow : OpenClaim := { program := "ytcolekfjmhgldaa", sum := "25629aa4cc18f4e872c3196d3a34d580f95e794899e3c974574795ab69c1eb19", func := "garment/garmentlaw51.ReworkRuns", spec := "reworkRuns", unfollowed := true, recurses := true, apart := false, narrowed := true }
def ReworkRunsUptoSaid : Prop := reworkRunsUptoRow.holds Try.pinned (OpenSpec.upto reworkRunsSpec)

/-- 'garmentlaw51.ReworkOrder', WHERE WHAT IT READS IS OF BULK AT MOST 1048576: true; the input reads as it did. -/
def reworkOrderUptoRow : OpenClaim := { program := "ytcolekfjmhgldaa", sum := "25629aa4cc18f4e872c3196d3a34d580f95e794899e3c974574795ab69c1eb19", func := "garment/garmentlaw51.ReworkOrder", spec := "reworkOrder", unfollowed := true, recurses := true, apart := false, narrowed := true }
def ReworkOrderUptoSaid : Prop := reworkOrderUptoRow.holds Try.pinned (OpenSpec.upto reworkOrderSpec)

/-- 'garmentlaw51.ReworkCounts', WHERE WHAT IT READS IS OF BULK AT MOST 1048576: true; the input reads as it did. -/
def reworkCountsUptoRow : OpenClaim := { program := "ytcolekfjmhgldaa", sum := "25629aa4cc18f4e872c3196d3a34d580f95e794899e3c974574795ab69c1eb19", func := "garment/garmentlaw51.ReworkCounts", spec := "reworkCounts", unfollowed := true, recurses := true, apart := false, narrowed := true }
def ReworkCountsUptoSaid : Prop := reworkCountsUptoRow.holds Try.pinned (OpenSpec.upto reworkCountsSpec)

/-- 'garmentlaw51.ReworkBegins', WHERE WHAT IT READS IS OF BULK AT MOST 1048576: true; the input reads as it did. -/
def reworkBeginsUptoRow : OpenClaim := { program := "ytcolekfjmhgldaa", sum := "25629aa4cc18f4e872c3196d3a34d580f95e794899e3c974574795ab69c1eb19", func := "garment/garmentlaw51.ReworkBegins", spec := "reworkBegins", unfollowed := true, recurses := true, apart := false, narrowed := true }
def ReworkBeginsUptoSaid : Prop := reworkBeginsUptoRow.holds Try.pinned (OpenSpec.upto reworkBeginsSpec)

/-- 'garmentlaw51.ReworkOpen', WHERE WHAT IT READS IS OF BULK AT MOST 1048576: true; the input reads as it did. -/
def reworkOpenUptoRow : OpenClaim := { program := "ytcolekfjmhgldaa", sum := "25629aa4cc18f4e872c3196d3a34d580f95e794899e3c974574795ab69c1eb19", func := "garment/garmentlaw51.ReworkOpen", spec := "reworkOpen", unfollowed := true, recurses := true, apart := false, narrowed := true }
def ReworkOpenUptoSaid : Prop := reworkOpenUptoRow.holds Try.pinned (OpenSpec.upto reworkOpenSpec)

/-- 'garmentlaw51.ReworkEnds', WHERE WHAT IT READS IS OF BULK AT MOST 1048576: true; the input reads as it did. -/
def reworkEndsUptoRow : OpenClaim := { program := "ytcolekfjmhgldaa", sum := "25629aa4cc18f4e872c3196d3a34d580f95e794899e3c974574795ab69c1eb19", func := "garment/garmentlaw51.ReworkEnds", spec := "reworkEnds", unfollowed := true, recurses := true, apart := false, narrowed := true }
def ReworkEndsUptoSaid : Prop := reworkEndsUptoRow.holds Try.pinned (OpenSpec.upto reworkEndsSpec)

end Rows
end Go.Proofs.Ytcolekfjmhgldaa
