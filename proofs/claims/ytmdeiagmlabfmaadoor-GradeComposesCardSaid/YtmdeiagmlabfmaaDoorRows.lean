/-
  NARROWER THAN 'FOR EVERY INPUT', by the rows' own cells (each row's printed sentence says how): GradeTurns: laid · GradeCorners: laid · GradeBack: laid · GradeSameAreas: laid · GradeMoves: laid · GradeComposes: laid.
  DERIVED. THE GIVEN ROWS OF THIS SEAT. 6 by the template 'for every input the law returns true; each argument reads behind the call as it read before'; 0 by the template 'total and deterministic' (their statements: YtmdeiagmlabfmaaDoorTotals.lean).
  GIVEN WITH THE SEED: the statements are not yours to turn. If you find one false, say at which input.
  Laid BY PROGRAM, IN A SANDBOX (cutbox-rows.mjs): the forced cells as the released guide's own fill.sh prints them over the translation 1909656b8ec912e9… (all of the seat's roots in one cut). By AI agents, Wed Nov 11 2026. No macro, syntax, notation, axiom, sorry.
-/
import Derived.Test.YtmdeiagmlabfmaaDoorChecked
import GoSem.PinnedTables
import GoSem.Claim
import GoSem.ClaimJoined
import GoSem.ClaimMapViews
import Derived.JoinedTies
import Derived.KernelRfl
namespace Go.Proofs.YtmdeiagmlabfmaaDoor
/- THE CELL 'sum', in the pinned program and in every row, IS THE sha256 OF THE DUMP (.gsa) THAT YtmdeiagmlabfmaaDoorProg.lean LOADS. Nothing in Lean hashes anything: it is a label: what it is worth is what the hold of that sum in a sandbox is worth. -/
noncomputable def Tryd.pinned : Pinned := { name := "ytmdeiagmlabfmaadoor", sum := "1909656b8ec912e9a84170e1b76ee5efc4abee0a5b2ca1ad2130f597813ad6a6", checked := Tryd.checked }
namespace Rows
def none {H : Type} : Left H := { results := [], args := [] }

/- WHAT THE LISTED PACKAGE-LEVEL VARIABLES READ AS WHEN THE CALL BEGINS. Each datum BY PROGRAM (the guide's laid-datum.mjs) off the statement by which the dump's own 'gosem.cut.vars' lays the variable. In a bare row this is a premise. The card (YtmdeiagmlabfmaaDoorCards.lean) ties it to the program's text. -/
def laid_unicode_utf8_acceptRanges {H : Type} : DataW H := .agg [.agg [.lit (.int .u8 128), .lit (.int .u8 191)], .agg [.lit (.int .u8 160), .lit (.int .u8 191)], .agg [.lit (.int .u8 128), .lit (.int .u8 159)], .agg [.lit (.int .u8 144), .lit (.int .u8 191)], .agg [.lit (.int .u8 128), .lit (.int .u8 143)], .agg [.lit (.int .u8 0), .lit (.int .u8 0)], .agg [.lit (.int .u8 0), .lit (.int .u8 0)], .agg [.lit (.int .u8 0), .lit (.int .u8 0)], .agg [.lit (.int .u8 0), .lit (.int .u8 0)], .agg [.lit (.int .u8 0), .lit (.int .u8 0)], .agg [.lit (.int .u8 0), .lit (.int .u8 0)], .agg [.lit (.int .u8 0), .lit (.int .u8 0)], .agg [.lit (.int .u8 0), .lit (.int .u8 0)], .agg [.lit (.int .u8 0), .lit (.int .u8 0)], .agg [.lit (.int .u8 0), .lit (.int .u8 0)], .agg [.lit (.int .u8 0), .lit (.int .u8 0)]]
/-- One of Go's own tables, pinned by name: the form's constant. -/
def laid_unicode_utf8_first : DataW Unit := Go.Pinned.utf8First

/-- 'garmentlaw21.GradeTurns': WHATEVER THE INPUT: true; the input reads as it did. -/
def gradeTurnsSpec : ChangeSpec := { name := "gradeTurns", fn := fun _ => fun
  | [d1, d2, d3] => { results := [.lit (.bool true)], args := [d1, d2, d3] }
  | _ => none }
def gradeTurnsRow : OpenClaim := { program := "ytmdeiagmlabfmaadoor", sum := "1909656b8ec912e9a84170e1b76ee5efc4abee0a5b2ca1ad2130f597813ad6a6", func := "garment/garmentlaw21.GradeTurns", spec := "gradeTurns", inPlace := ["internal/bytealg.IndexByteString", "internal/bytealg.IndexString", "math.sqrt"], unfollowed := true, recurses := true, named := ["unicode/utf8.first", "unicode/utf8.acceptRanges", "internal/bytealg.MaxLen"], apart := false, laid := [("unicode/utf8.acceptRanges", laid_unicode_utf8_acceptRanges), ("unicode/utf8.first", laid_unicode_utf8_first)] }
def GradeTurnsSaid : Prop := gradeTurnsRow.holds Tryd.pinned (OpenSpec.ofChange gradeTurnsSpec)

/-- ITS FALSE NEIGHBOUR: 'it returns false'. Refute it at one input. -/
def gradeTurnsWrong : ChangeSpec := { name := "gradeTurns", fn := fun _ => fun
  | [d1, d2, d3] => { results := [.lit (.bool false)], args := [d1, d2, d3] }
  | _ => none }
def GradeTurnsWrongFalsely : Prop := gradeTurnsRow.holds Tryd.pinned (OpenSpec.ofChange gradeTurnsWrong)

/-- 'garmentlaw21.GradeCorners': WHATEVER THE INPUT: true; the input reads as it did. -/
def gradeCornersSpec : ChangeSpec := { name := "gradeCorners", fn := fun _ => fun
  | [d1, d2] => { results := [.lit (.bool true)], args := [d1, d2] }
  | _ => none }
def gradeCornersRow : OpenClaim := { program := "ytmdeiagmlabfmaadoor", sum := "1909656b8ec912e9a84170e1b76ee5efc4abee0a5b2ca1ad2130f597813ad6a6", func := "garment/garmentlaw21.GradeCorners", spec := "gradeCorners", inPlace := ["internal/bytealg.IndexByteString", "internal/bytealg.IndexString", "math.sqrt"], unfollowed := true, recurses := true, named := ["unicode/utf8.first", "unicode/utf8.acceptRanges", "internal/bytealg.MaxLen"], apart := false, laid := [("unicode/utf8.acceptRanges", laid_unicode_utf8_acceptRanges), ("unicode/utf8.first", laid_unicode_utf8_first)] }
def GradeCornersSaid : Prop := gradeCornersRow.holds Tryd.pinned (OpenSpec.ofChange gradeCornersSpec)

/-- ITS FALSE NEIGHBOUR: 'it returns false'. Refute it at one input. -/
def gradeCornersWrong : ChangeSpec := { name := "gradeCorners", fn := fun _ => fun
  | [d1, d2] => { results := [.lit (.bool false)], args := [d1, d2] }
  | _ => none }
def GradeCornersWrongFalsely : Prop := gradeCornersRow.holds Tryd.pinned (OpenSpec.ofChange gradeCornersWrong)

/-- 'garmentlaw21.GradeBack': WHATEVER THE INPUT: true; the input reads as it did. -/
def gradeBackSpec : ChangeSpec := { name := "gradeBack", fn := fun _ => fun
  | [d1, d2] => { results := [.lit (.bool true)], args := [d1, d2] }
  | _ => none }
def gradeBackRow : OpenClaim := { program := "ytmdeiagmlabfmaadoor", sum := "1909656b8ec912e9a84170e1b76ee5efc4abee0a5b2ca1ad2130f597813ad6a6", func := "garment/garmentlaw21.GradeBack", spec := "gradeBack", inPlace := ["internal/bytealg.IndexByteString", "internal/bytealg.IndexString", "math.sqrt"], unfollowed := true, recurses := true, named := ["unicode/utf8.first", "unicode/utf8.acceptRanges", "internal/bytealg.MaxLen"], apart := false, laid := [("unicode/utf8.acceptRanges", laid_unicode_utf8_acceptRanges), ("unicode/utf8.first", laid_unicode_utf8_first)] }
def GradeBackSaid : Prop := gradeBackRow.holds Tryd.pinned (OpenSpec.ofChange gradeBackSpec)

/-- ITS FALSE NEIGHBOUR: 'it returns false'. Refute it at one input. -/
def gradeBackWrong : ChangeSpec := { name := "gradeBack", fn := fun _ => fun
  | [d1, d2] => { results := [.lit (.bool false)], args := [d1, d2] }
  | _ => none }
def GradeBackWrongFalsely : Prop := gradeBackRow.holds Tryd.pinned (OpenSpec.ofChange gradeBackWrong)

/-- 'garmentlaw21.GradeSameAreas': WHATEVER THE INPUT: true; the input reads as it did. -/
def gradeSameAreasSpec : ChangeSpec := { name := "gradeSameAreas", fn := fun _ => fun
  | [d1, d2, d3] => { results := [.lit (.bool true)], args := [d1, d2, d3] }
  | _ => none }
def gradeSameAreasRow : OpenClaim := { program := "ytmdeiagmlabfmaadoor", sum := "1909656b8ec912e9a84170e1b76ee5efc4abee0a5b2ca1ad2130f597813ad6a6", func := "garment/garmentlaw21.GradeSameAreas", spec := "gradeSameAreas", inPlace := ["internal/bytealg.IndexByteString", "internal/bytealg.IndexString", "math.sqrt"], unfollowed := true, recurses := true, named := ["unicode/utf8.first", "unicode/utf8.acceptRanges", "internal/bytealg.MaxLen"], apart := false, laid := [("unicode/utf8.acceptRanges", laid_unicode_utf8_acceptRanges), ("unicode/utf8.first", laid_unicode_utf8_first)] }
def GradeSameAreasSaid : Prop := gradeSameAreasRow.holds Tryd.pinned (OpenSpec.ofChange gradeSameAreasSpec)

/-- ITS FALSE NEIGHBOUR: 'it returns false'. Refute it at one input. -/
def gradeSameAreasWrong : ChangeSpec := { name := "gradeSameAreas", fn := fun _ => fun
  | [d1, d2, d3] => { results := [.lit (.bool false)], args := [d1, d2, d3] }
  | _ => none }
def GradeSameAreasWrongFalsely : Prop := gradeSameAreasRow.holds Tryd.pinned (OpenSpec.ofChange gradeSameAreasWrong)

/-- 'garmentlaw21.GradeMoves': WHATEVER THE INPUT: true; the input reads as it did. -/
def gradeMovesSpec : ChangeSpec := { name := "gradeMoves", fn := fun _ => fun
  | [d1, d2, d3] => { results := [.lit (.bool true)], args := [d1, d2, d3] }
  | _ => none }
def gradeMovesRow : OpenClaim := { program := "ytmdeiagmlabfmaadoor", sum := "1909656b8ec912e9a84170e1b76ee5efc4abee0a5b2ca1ad2130f597813ad6a6", func := "garment/garmentlaw21.GradeMoves", spec := "gradeMoves", inPlace := ["internal/bytealg.IndexByteString", "internal/bytealg.IndexString", "math.sqrt"], unfollowed := true, recurses := true, named := ["unicode/utf8.first", "unicode/utf8.acceptRanges", "internal/bytealg.MaxLen"], apart := false, laid := [("unicode/utf8.acceptRanges", laid_unicode_utf8_acceptRanges), ("unicode/utf8.first", laid_unicode_utf8_first)] }
def GradeMovesSaid : Prop := gradeMovesRow.holds Tryd.pinned (OpenSpec.ofChange gradeMovesSpec)

/-- ITS FALSE NEIGHBOUR: 'it returns false'. Refute it at one input. -/
def gradeMovesWrong : ChangeSpec := { name := "gradeMoves", fn := fun _ => fun
  | [d1, d2, d3] => { results := [.lit (.bool false)], args := [d1, d2, d3] }
  | _ => none }
def GradeMovesWrongFalsely : Prop := gradeMovesRow.holds Tryd.pinned (OpenSpec.ofChange gradeMovesWrong)

/-- 'garmentlaw21.GradeComposes': WHATEVER THE INPUT: true; the input reads as it did. -/
def gradeComposesSpec : ChangeSpec := { name := "gradeComposes", fn := fun _ => fun
  | [d1, d2, d3] => { results := [.lit (.bool true)], args := [d1, d2, d3] }
  | _ => none }
def gradeComposesRow : OpenClaim := { program := "ytmdeiagmlabfmaadoor", sum := "1909656b8ec912e9a84170e1b76ee5efc4abee0a5b2ca1ad2130f597813ad6a6", func := "garment/garmentlaw21.GradeComposes", spec := "gradeComposes", inPlace := ["internal/bytealg.IndexByteString", "internal/bytealg.IndexString", "math.sqrt"], unfollowed := true, recurses := true, named := ["unicode/utf8.first", "unicode/utf8.acceptRanges", "internal/bytealg.MaxLen"], apart := false, laid := [("unicode/utf8.acceptRanges", laid_unicode_utf8_acceptRanges), ("unicode/utf8.first", laid_unicode_utf8_first)] }
def GradeComposesSaid : Prop := gradeComposesRow.holds Tryd.pinned (OpenSpec.ofChange gradeComposesSpec)

/-- ITS FALSE NEIGHBOUR: 'it returns false'. Refute it at one input. -/
def gradeComposesWrong : ChangeSpec := { name := "gradeComposes", fn := fun _ => fun
  | [d1, d2, d3] => { results := [.lit (.bool false)], args := [d1, d2, d3] }
  | _ => none }
def GradeComposesWrongFalsely : Prop := gradeComposesRow.holds Tryd.pinned (OpenSpec.ofChange gradeComposesWrong)

/- THE SECOND FORM. 'bulk': how many values and letters a reading holds, each counted each time it is reached (what is shared counts as often as it is met; a slice's spare places count too). A statement '..UptoSaid' is the law's where the arguments, and the package variables that the reading takes, are together of bulk at most 1048576: NARROWER than '..Said'. Prove '..Said' where nothing that the law and all that it calls make is longer than what came in: it says more and counts as full. Else prove '..UptoSaid'. A law counts once. -/
mutual
def uptoBulk {H : Type} : DataW H → Nat
  | .lit (.string bytes) => bytes.length + 1
  | .lit _ => 1
  | .nil => 1
  | .ptr d => uptoBulk d + 1
  | .slice elems spare => uptoBulkAll elems + uptoBulkAll spare + 1
  | .agg parts => uptoBulkAll parts + 1
  | .iface _ d => uptoBulk d + 1
  | .map entries => uptoBulkEntries entries + 1
  | .held _ => 1
def uptoBulkAll {H : Type} : List (DataW H) → Nat
  | [] => 0
  | d :: r => uptoBulk d + uptoBulkAll r
def uptoBulkEntries {H : Type} : List (Lit × DataW H) → Nat
  | [] => 0
  | x :: r => uptoBulkEntry x + uptoBulkEntries r
def uptoBulkEntry {H : Type} : Lit × DataW H → Nat
  | (.string bytes, d) => bytes.length + uptoBulk d + 1
  | (_, d) => uptoBulk d + 1
 end
def uptoSmall : (H : Type) → List (DataW H) → Bool := fun _ ds => decide (uptoBulkAll ds ≤ 1048576)
def OpenSpec.upto (s : _root_.Go.ChangeSpec) : _root_.Go.OpenSpec := { _root_.Go.OpenSpec.ofChange s with cond := some uptoSmall }

/-- 'garmentlaw21.GradeTurns', WHERE WHAT IT READS IS OF BULK AT MOST 1048576: true; the input reads as it did. -/
def gradeTurnsUptoRow : OpenClaim := { program := "ytmdeiagmlabfmaadoor", sum := "1909656b8ec912e9a84170e1b76ee5efc4abee0a5b2ca1ad2130f597813ad6a6", func := "garment/garmentlaw21.GradeTurns", spec := "gradeTurns", inPlace := ["internal/bytealg.IndexByteString", "internal/bytealg.IndexString", "math.sqrt"], unfollowed := true, recurses := true, named := ["unicode/utf8.first", "unicode/utf8.acceptRanges", "internal/bytealg.MaxLen"], apart := false, laid := [("unicode/utf8.acceptRanges", laid_unicode_utf8_acceptRanges), ("unicode/utf8.first", laid_unicode_utf8_first)], narrowed := true }
def GradeTurnsUptoSaid : Prop := gradeTurnsUptoRow.holds Tryd.pinned (OpenSpec.upto gradeTurnsSpec)

/-- 'garmentlaw21.GradeCorners', WHERE WHAT IT READS IS OF BULK AT MOST 1048576: true; the input reads as it did. -/
def gradeCornersUptoRow : OpenClaim := { program := "ytmdeiagmlabfmaadoor", sum := "1909656b8ec912e9a84170e1b76ee5efc4abee0a5b2ca1ad2130f597813ad6a6", func := "garment/garmentlaw21.GradeCorners", spec := "gradeCorners", inPlace := ["internal/bytealg.IndexByteString", "internal/bytealg.IndexString", "math.sqrt"], unfollowed := true, recurses := true, named := ["unicode/utf8.first", "unicode/utf8.acceptRanges", "internal/bytealg.MaxLen"], apart := false, laid := [("unicode/utf8.acceptRanges", laid_unicode_utf8_acceptRanges), ("unicode/utf8.first", laid_unicode_utf8_first)], narrowed := true }
def GradeCornersUptoSaid : Prop := gradeCornersUptoRow.holds Tryd.pinned (OpenSpec.upto gradeCornersSpec)

/-- 'garmentlaw21.GradeBack', WHERE WHAT IT READS IS OF BULK AT MOST 1048576: true; the input reads as it did. -/
def gradeBackUptoRow : OpenClaim := { program := "ytmdeiagmlabfmaadoor", sum := "1909656b8ec912e9a84170e1b76ee5efc4abee0a5b2ca1ad2130f597813ad6a6", func := "garment/garmentlaw21.GradeBack", spec := "gradeBack", inPlace := ["internal/bytealg.IndexByteString", "internal/bytealg.IndexString", "math.sqrt"], unfollowed := true, recurses := true, named := ["unicode/utf8.first", "unicode/utf8.acceptRanges", "internal/bytealg.MaxLen"], apart := false, laid := [("unicode/utf8.acceptRanges", laid_unicode_utf8_acceptRanges), ("unicode/utf8.first", laid_unicode_utf8_first)], narrowed := true }
def GradeBackUptoSaid : Prop := gradeBackUptoRow.holds Tryd.pinned (OpenSpec.upto gradeBackSpec)

/-- 'garmentlaw21.GradeSameAreas', WHERE WHAT IT READS IS OF BULK AT MOST 1048576: true; the input reads as it did. -/
def gradeSameAreasUptoRow : OpenClaim := { program := "ytmdeiagmlabfmaadoor", sum := "1909656b8ec912e9a84170e1b76ee5efc4abee0a5b2ca1ad2130f597813ad6a6", func := "garment/garmentlaw21.GradeSameAreas", spec := "gradeSameAreas", inPlace := ["internal/bytealg.IndexByteString", "internal/bytealg.IndexString", "math.sqrt"], unfollowed := true, recurses := true, named := ["unicode/utf8.first", "unicode/utf8.acceptRanges", "internal/bytealg.MaxLen"], apart := false, laid := [("unicode/utf8.acceptRanges", laid_unicode_utf8_acceptRanges), ("unicode/utf8.first", laid_unicode_utf8_first)], narrowed := true }
def GradeSameAreasUptoSaid : Prop := gradeSameAreasUptoRow.holds Tryd.pinned (OpenSpec.upto gradeSameAreasSpec)

/-- 'garmentlaw21.GradeMoves', WHERE WHAT IT READS IS OF BULK AT MOST 1048576: true; the input reads as it did. -/
def gradeMovesUptoRow : OpenClaim := { program := "ytmdeiagmlabfmaadoor", sum := "1909656b8ec912e9a84170e1b76ee5efc4abee0a5b2ca1ad2130f597813ad6a6", func := "garment/garmentlaw21.GradeMoves", spec := "gradeMoves", inPlace := ["internal/bytealg.IndexByteString", "internal/bytealg.IndexString", "math.sqrt"], unfollowed := true, recurses := true, named := ["unicode/utf8.first", "unicode/utf8.acceptRanges", "internal/bytealg.MaxLen"], apart := false, laid := [("unicode/utf8.acceptRanges", laid_unicode_utf8_acceptRanges), ("unicode/utf8.first", laid_unicode_utf8_first)], narrowed := true }
def GradeMovesUptoSaid : Prop := gradeMovesUptoRow.holds Tryd.pinned (OpenSpec.upto gradeMovesSpec)

/-- 'garmentlaw21.GradeComposes', WHERE WHAT IT READS IS OF BULK AT MOST 1048576: true; the input reads as it did. -/
def gradeComposesUptoRow : OpenClaim := { program := "ytmdeiagmlabfmaadoor", sum := "1909656b8ec912e9a84170e1b76ee5efc4abee0a5b2ca1ad2130f597813ad6a6", func := "garment/garmentlaw21.GradeComposes", spec := "gradeComposes", inPlace := ["internal/bytealg.IndexByteString", "internal/bytealg.IndexString", "math.sqrt"], unfollowed := true, recurses := true, named := ["unicode/utf8.first", "unicode/utf8.acceptRanges", "internal/bytealg.MaxLen"], apart := false, laid := [("unicode/utf8.acceptRanges", laid_unicode_utf8_acceptRanges), ("unicode/utf8.first", laid_unicode_utf8_first)], narrowed := true }
def GradeComposesUptoSaid : Prop := gradeComposesUptoRow.holds Tryd.pinned (OpenSpec.upto gradeComposesSpec)

end Rows
end Go.Proofs.YtmdeiagmlabfmaaDoor
