/-
  No cell of these rows narrows 'for every input' (looked for: loops, veiled, ifaces, maps, wideKeys, modest, calm, conditions, laid).
  DERIVED. THE GIVEN ROWS OF THIS SEAT. 6 by the template 'for every input the law returns true; each argument reads behind the call as it read before'; 0 by the template 'total and deterministic' (their statements: YtchibfkcphbmjaaTotals.lean).
  GIVEN WITH THE SEED: the statements are not yours to turn. If you find one false, say at which input.
  Laid BY PROGRAM, IN A SANDBOX (cutbox-rows.mjs): the forced cells as the released guide's own fill.sh prints them over the translation 761b820e91650d19… (all of the seat's roots in one cut). By AI agents, Wed Nov 11 2026. No macro, syntax, notation, axiom, sorry.
-/
import Derived.Test.YtchibfkcphbmjaaChecked
import GoSem.Claim
import GoSem.ClaimJoined
import GoSem.ClaimMapViews
import Derived.JoinedTies
import Derived.KernelRfl
namespace Go.Proofs.Ytchibfkcphbmjaa
/- THE CELL 'sum', in the pinned program and in every row, IS THE sha256 OF THE DUMP (.gsa) THAT YtchibfkcphbmjaaProg.lean LOADS. Nothing in Lean hashes anything: it is a label: what it is worth is what the hold of that sum in a sandbox is worth. -/
noncomputable def Try.pinned : Pinned := { name := "ytchibfkcphbmjaa", sum := "761b820e91650d198723d16977a1d7aced5ae99c3a80aa1ec8601544ac10ebd1", checked := Try.checked }
namespace Rows
def none {H : Type} : Left H := { results := [], args := [] }

/-- 'garmentlaw10.PolylineAlongs': WHATEVER THE INPUT: true; the input reads as it did. -/
def polylineAlongsSpec : ChangeSpec := { name := "polylineAlongs", fn := fun _ => fun
  | [d1, d2] => { results := [.lit (.bool true)], args := [d1, d2] }
  | _ => none }
def polylineAlongsRow : OpenClaim := { program := "ytchibfkcphbmjaa", sum := "761b820e91650d198723d16977a1d7aced5ae99c3a80aa1ec8601544ac10ebd1", func := "garment/garmentlaw10.PolylineAlongs", spec := "polylineAlongs", inPlace := ["math.sqrt"], recurses := true, apart := false }
def PolylineAlongsSaid : Prop := polylineAlongsRow.holds Try.pinned (OpenSpec.ofChange polylineAlongsSpec)

/-- ITS FALSE NEIGHBOUR: 'it returns false'. Refute it at one input. -/
def polylineAlongsWrong : ChangeSpec := { name := "polylineAlongs", fn := fun _ => fun
  | [d1, d2] => { results := [.lit (.bool false)], args := [d1, d2] }
  | _ => none }
def PolylineAlongsWrongFalsely : Prop := polylineAlongsRow.holds Try.pinned (OpenSpec.ofChange polylineAlongsWrong)

/-- 'garmentlaw10.PolylineDivides': WHATEVER THE INPUT: true; the input reads as it did. -/
def polylineDividesSpec : ChangeSpec := { name := "polylineDivides", fn := fun _ => fun
  | [d1, d2] => { results := [.lit (.bool true)], args := [d1, d2] }
  | _ => none }
def polylineDividesRow : OpenClaim := { program := "ytchibfkcphbmjaa", sum := "761b820e91650d198723d16977a1d7aced5ae99c3a80aa1ec8601544ac10ebd1", func := "garment/garmentlaw10.PolylineDivides", spec := "polylineDivides", inPlace := ["math.sqrt"], recurses := true, apart := false }
def PolylineDividesSaid : Prop := polylineDividesRow.holds Try.pinned (OpenSpec.ofChange polylineDividesSpec)

/-- ITS FALSE NEIGHBOUR: 'it returns false'. Refute it at one input. -/
def polylineDividesWrong : ChangeSpec := { name := "polylineDivides", fn := fun _ => fun
  | [d1, d2] => { results := [.lit (.bool false)], args := [d1, d2] }
  | _ => none }
def PolylineDividesWrongFalsely : Prop := polylineDividesRow.holds Try.pinned (OpenSpec.ofChange polylineDividesWrong)

/-- 'garmentlaw10.PolylineCuts': WHATEVER THE INPUT: true; the input reads as it did. -/
def polylineCutsSpec : ChangeSpec := { name := "polylineCuts", fn := fun _ => fun
  | [d1, d2] => { results := [.lit (.bool true)], args := [d1, d2] }
  | _ => none }
def polylineCutsRow : OpenClaim := { program := "ytchibfkcphbmjaa", sum := "761b820e91650d198723d16977a1d7aced5ae99c3a80aa1ec8601544ac10ebd1", func := "garment/garmentlaw10.PolylineCuts", spec := "polylineCuts", inPlace := ["math.sqrt"], apart := false }
def PolylineCutsSaid : Prop := polylineCutsRow.holds Try.pinned (OpenSpec.ofChange polylineCutsSpec)

/-- ITS FALSE NEIGHBOUR: 'it returns false'. Refute it at one input. -/
def polylineCutsWrong : ChangeSpec := { name := "polylineCuts", fn := fun _ => fun
  | [d1, d2] => { results := [.lit (.bool false)], args := [d1, d2] }
  | _ => none }
def PolylineCutsWrongFalsely : Prop := polylineCutsRow.holds Try.pinned (OpenSpec.ofChange polylineCutsWrong)

/-- 'garmentlaw10.PolylineVertices': WHATEVER THE INPUT: true; the input reads as it did. -/
def polylineVerticesSpec : ChangeSpec := { name := "polylineVertices", fn := fun _ => fun
  | [d1, d2] => { results := [.lit (.bool true)], args := [d1, d2] }
  | _ => none }
def polylineVerticesRow : OpenClaim := { program := "ytchibfkcphbmjaa", sum := "761b820e91650d198723d16977a1d7aced5ae99c3a80aa1ec8601544ac10ebd1", func := "garment/garmentlaw10.PolylineVertices", spec := "polylineVertices", inPlace := ["math.sqrt"], apart := false }
def PolylineVerticesSaid : Prop := polylineVerticesRow.holds Try.pinned (OpenSpec.ofChange polylineVerticesSpec)

/-- ITS FALSE NEIGHBOUR: 'it returns false'. Refute it at one input. -/
def polylineVerticesWrong : ChangeSpec := { name := "polylineVertices", fn := fun _ => fun
  | [d1, d2] => { results := [.lit (.bool false)], args := [d1, d2] }
  | _ => none }
def PolylineVerticesWrongFalsely : Prop := polylineVerticesRow.holds Try.pinned (OpenSpec.ofChange polylineVerticesWrong)

/-- 'garmentlaw10.PolylineReverses': WHATEVER THE INPUT: true; the input reads as it did. -/
def polylineReversesSpec : ChangeSpec := { name := "polylineReverses", fn := fun _ => fun
  | [d1, d2] => { results := [.lit (.bool true)], args := [d1, d2] }
  | _ => none }
def polylineReversesRow : OpenClaim := { program := "ytchibfkcphbmjaa", sum := "761b820e91650d198723d16977a1d7aced5ae99c3a80aa1ec8601544ac10ebd1", func := "garment/garmentlaw10.PolylineReverses", spec := "polylineReverses", inPlace := ["math.sqrt"], apart := false }
def PolylineReversesSaid : Prop := polylineReversesRow.holds Try.pinned (OpenSpec.ofChange polylineReversesSpec)

/-- ITS FALSE NEIGHBOUR: 'it returns false'. Refute it at one input. -/
def polylineReversesWrong : ChangeSpec := { name := "polylineReverses", fn := fun _ => fun
  | [d1, d2] => { results := [.lit (.bool false)], args := [d1, d2] }
  | _ => none }
def PolylineReversesWrongFalsely : Prop := polylineReversesRow.holds Try.pinned (OpenSpec.ofChange polylineReversesWrong)

/-- 'garmentlaw10.PolylineShifts': WHATEVER THE INPUT: true; the input reads as it did. -/
def polylineShiftsSpec : ChangeSpec := { name := "polylineShifts", fn := fun _ => fun
  | [d1, d2, d3] => { results := [.lit (.bool true)], args := [d1, d2, d3] }
  | _ => none }
def polylineShiftsRow : OpenClaim := { program := "ytchibfkcphbmjaa", sum := "761b820e91650d198723d16977a1d7aced5ae99c3a80aa1ec8601544ac10ebd1", func := "garment/garmentlaw10.PolylineShifts", spec := "polylineShifts", inPlace := ["math.sqrt"], apart := false }
def PolylineShiftsSaid : Prop := polylineShiftsRow.holds Try.pinned (OpenSpec.ofChange polylineShiftsSpec)

/-- ITS FALSE NEIGHBOUR: 'it returns false'. Refute it at one input. -/
def polylineShiftsWrong : ChangeSpec := { name := "polylineShifts", fn := fun _ => fun
  | [d1, d2, d3] => { results := [.lit (.bool false)], args := [d1, d2, d3] }
  | _ => none }
def PolylineShiftsWrongFalsely : Prop := polylineShiftsRow.holds Try.pinned (OpenSpec.ofChange polylineShiftsWrong)

/- THE SECOND FORM. 'bulk': how many values and letters a reading holds, each counted each time it is reached (what is shared counts as often as it is met; a slice's spare places count too). A statement '..UptoSaid' is the law's where the arguments, and the package variables that the reading takes, are together of bulk at most 1048576: NARROWER than '..Said'. Prove '..Said' where nothing that the law and all that it calls make is longer than what came in: it says more and counts as full. Else prove '..UptoSaid'. A law counts once. -/
mutual
def uptoBulk {H : Type} : DataW H → Nat
  | .lit (.string bytes) => bytes.length + 1
  | .lit _ => 1
  | .nil => 1
  | .ptr d => uptoBulk d + 1
  | .slice elems spare => uptoBulkAll elems + uptoBulkAll spare + 1
  | .agg parts => uptoBulkAll parts + 1
  | .iface _ d => uptoBulk d + 1
  | .map entries => uptoBulkEntries entries + 1
  | .held _ => 1
def uptoBulkAll {H : Type} : List (DataW H) → Nat
  | [] => 0
  | d :: r => uptoBulk d + uptoBulkAll r
def uptoBulkEntries {H : Type} : List (Lit × DataW H) → Nat
  | [] => 0
  | x :: r => uptoBulkEntry x + uptoBulkEntries r
def uptoBulkEntry {H : Type} : Lit × DataW H → Nat
  | (.string bytes, d) => bytes.length + uptoBulk d + 1
  | (_, d) => uptoBulk d + 1
 end
def uptoSmall : (H : Type) → List (DataW H) → Bool := fun _ ds => decide (uptoBulkAll ds ≤ 1048576)
def OpenSpec.upto (s : _root_.Go.ChangeSpec) : _root_.Go.OpenSpec := { _root_.Go.OpenSpec.ofChange s with cond := some uptoSmall }

/-- 'garmentlaw10.PolylineAlongs', WHERE WHAT IT READS IS OF BULK AT MOST 1048576: true; the input reads as it did. -/
def polylineAlongsUptoRow : OpenClaim := { program := "ytchibfkcphbmjaa", sum := "761b820e91650d198723d16977a1d7aced5ae99c3a80aa1ec8601544ac10ebd1", func := "garment/garmentlaw10.PolylineAlongs", spec := "polylineAlongs", inPlace := ["math.sqrt"], recurses := true, apart := false, narrowed := true }
def PolylineAlongsUptoSaid : Prop := polylineAlongsUptoRow.holds Try.pinned (OpenSpec.upto polylineAlongsSpec)

/-- 'garmentlaw10.PolylineDivides', WHERE WHAT IT READS IS OF BULK AT MOST 1048576: true; the input reads as it did. -/
def polylineDividesUptoRow : OpenClaim := { program := "ytchibfkcphbmjaa", sum := "761b820e91650d198723d16977a1d7aced5ae99c3a80aa1ec8601544ac10ebd1", func := "garment/garmentlaw10.PolylineDivides", spec := "polylineDivides", inPlace := ["math.sqrt"], recurses := true, apart := false, narrowed := true }
def PolylineDividesUptoSaid : Prop := polylineDividesUptoRow.holds Try.pinned (OpenSpec.upto polylineDividesSpec)

/-- 'garmentlaw10.PolylineCuts', WHERE WHAT IT READS IS OF BULK AT MOST 1048576: true; the input reads as it did. -/
def polylineCutsUptoRow : OpenClaim := { program := "ytchibfkcphbmjaa", sum := "761b820e91650d198723d16977a1d7aced5ae99c3a80aa1ec8601544ac10ebd1", func := "garment/garmentlaw10.PolylineCuts", spec := "polylineCuts", inPlace := ["math.sqrt"], apart := false, narrowed := true }
def PolylineCutsUptoSaid : Prop := polylineCutsUptoRow.holds Try.pinned (OpenSpec.upto polylineCutsSpec)

/-- 'garmentlaw10.PolylineVertices', WHERE WHAT IT READS IS OF BULK AT MOST 1048576: true; the input reads as it did. -/
def polylineVerticesUptoRow : OpenClaim := { program := "ytchibfkcphbmjaa", sum := "761b820e91650d198723d16977a1d7aced5ae99c3a80aa1ec8601544ac10ebd1", func := "garment/garmentlaw10.PolylineVertices", spec := "polylineVertices", inPlace := ["math.sqrt"], apart := false, narrowed := true }
def PolylineVerticesUptoSaid : Prop := polylineVerticesUptoRow.holds Try.pinned (OpenSpec.upto polylineVerticesSpec)

/-- 'garmentlaw10.PolylineReverses', WHERE WHAT IT READS IS OF BULK AT MOST 1048576: true; the input reads as it did. -/
def polylineReversesUptoRow : OpenClaim := { program := "ytchibfkcphbmjaa", sum := "761b820e91650d198723d16977a1d7aced5ae99c3a80aa1ec8601544ac10ebd1", func := "garment/garmentlaw10.PolylineReverses", spec := "polylineReverses", inPlace := ["math.sqrt"], apart := false, narrowed := true }
def PolylineReversesUptoSaid : Prop := polylineReversesUptoRow.holds Try.pinned (OpenSpec.upto polylineReversesSpec)

/-- 'garmentlaw10.PolylineShifts', WHERE WHAT IT READS IS OF BULK AT MOST 1048576: true; the input reads as it did. -/
def polylineShiftsUptoRow : OpenClaim := { program := "ytchibfkcphbmjaa", sum := "761b820e91650d198723d16977a1d7aced5ae99c3a80aa1ec8601544ac10ebd1", func := "garment/garmentlaw10.PolylineShifts", spec := "polylineShifts", inPlace := ["math.sqrt"], apart := false, narrowed := true }
def PolylineShiftsUptoSaid : Prop := polylineShiftsUptoRow.holds Try.pinned (OpenSpec.upto polylineShiftsSpec)

end Rows
end Go.Proofs.Ytchibfkcphbmjaa
