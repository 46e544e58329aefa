/-
  DERIVED. GIVEN WITH THE SEED: THE CARDS: each row of YtmdeiagmlabfmaaGreatDoorRows.lean that lists a variable, with what it lists TIED to the program's text (the seventh form; the later family's looks); each row that meets fmt, with fmt's text TOLD by the authors' own Lean function (tested against real Go, not proved from fmt's source: count such statements apart). THE CARD IS WHAT COUNTS. Prove the row's statement (the work); the ties are given (YtmdeiagmlabfmaaGreatDoorTie.lean); close each card by the builder's one call (the guide's Derived/Test/ToyasCard.lean, 'card_holds'). Laid BY PROGRAM, IN A SANDBOX (cutbox-door.mjs). By AI agents, Wed Nov 11 2026. No macro, syntax, notation, axiom, sorry.
-/
import Derived.Test.YtmdeiagmlabfmaaGreatDoorRows
import GoSem.ClaimSeven
namespace Go.Proofs.YtmdeiagmlabfmaaGreatDoor
namespace Rows

/-- THE TIED CARD OF 'garmentlaw21.GradeResults'. -/
def gradeResultsCard : Claim7 := { stood := { row := gradeResultsRow, standIns := [], harness := (true, "0ff90bee10371aeb4d3b8bd6b9195e5715c053210cef9ef64c49bd6fda3bd20d"), looks := false }, kinds := [], alts := [], laidByText := true, laidKinds := [.data, .pinned], laidTests := true, laidLooks := .later }
def GradeResultsCardSaid : Prop := Claim7.holds Tryz.pinned (.plain (OpenSpec.ofChange gradeResultsSpec)) gradeResultsCard

/-- THE TIED CARD OF 'garmentlaw21.GradeAreas'. -/
def gradeAreasCard : Claim7 := { stood := { row := gradeAreasRow, standIns := [], harness := (true, "0ff90bee10371aeb4d3b8bd6b9195e5715c053210cef9ef64c49bd6fda3bd20d"), looks := false }, kinds := [], alts := [], laidByText := true, laidKinds := [.data, .pinned], laidTests := true, laidLooks := .later }
def GradeAreasCardSaid : Prop := Claim7.holds Tryz.pinned (.plain (OpenSpec.ofChange gradeAreasSpec)) gradeAreasCard

/-- THE SECOND FORM's CARD OF 'garmentlaw21.GradeResults'. -/
def gradeResultsUptoCard : Claim7 := { stood := { row := gradeResultsUptoRow, standIns := [], harness := (true, "0ff90bee10371aeb4d3b8bd6b9195e5715c053210cef9ef64c49bd6fda3bd20d"), looks := false }, kinds := [], alts := [], laidByText := true, laidKinds := [.data, .pinned], laidTests := true, laidLooks := .later }
def GradeResultsUptoCardSaid : Prop := Claim7.holds Tryz.pinned (.plain (OpenSpec.upto gradeResultsSpec)) gradeResultsUptoCard

/-- THE SECOND FORM's CARD OF 'garmentlaw21.GradeAreas'. -/
def gradeAreasUptoCard : Claim7 := { stood := { row := gradeAreasUptoRow, standIns := [], harness := (true, "0ff90bee10371aeb4d3b8bd6b9195e5715c053210cef9ef64c49bd6fda3bd20d"), looks := false }, kinds := [], alts := [], laidByText := true, laidKinds := [.data, .pinned], laidTests := true, laidLooks := .later }
def GradeAreasUptoCardSaid : Prop := Claim7.holds Tryz.pinned (.plain (OpenSpec.upto gradeAreasSpec)) gradeAreasUptoCard
end Rows
end Go.Proofs.YtmdeiagmlabfmaaGreatDoor
