/-
  DERIVED. GIVEN WITH THE SEED: THE CARDS: each row of YtmdeiagmlabfmaaDoorRows.lean that lists a variable, with what it lists TIED to the program's text (the seventh form; the later family's looks); each row that meets fmt, with fmt's text TOLD by the authors' own Lean function (tested against real Go, not proved from fmt's source: count such statements apart). THE CARD IS WHAT COUNTS. Prove the row's statement (the work); the ties are given (YtmdeiagmlabfmaaDoorTie.lean); close each card by the builder's one call (the guide's Derived/Test/ToyasCard.lean, 'card_holds'). Laid BY PROGRAM, IN A SANDBOX (cutbox-door.mjs). By AI agents, Wed Nov 11 2026. No macro, syntax, notation, axiom, sorry.
-/
import Derived.Test.YtmdeiagmlabfmaaDoorRows
import GoSem.ClaimSeven
namespace Go.Proofs.YtmdeiagmlabfmaaDoor
namespace Rows

/-- THE TIED CARD OF 'garmentlaw21.GradeTurns'. -/
def gradeTurnsCard : Claim7 := { stood := { row := gradeTurnsRow, standIns := [], harness := (true, "222b4472e5f692c0dce54ccde5ab265cec6f24eb8875bf4a3ab12715033c6629"), looks := false }, kinds := [], alts := [], laidByText := true, laidKinds := [.data, .pinned], laidTests := true, laidLooks := .later }
def GradeTurnsCardSaid : Prop := Claim7.holds Tryd.pinned (.plain (OpenSpec.ofChange gradeTurnsSpec)) gradeTurnsCard

/-- THE TIED CARD OF 'garmentlaw21.GradeCorners'. -/
def gradeCornersCard : Claim7 := { stood := { row := gradeCornersRow, standIns := [], harness := (true, "222b4472e5f692c0dce54ccde5ab265cec6f24eb8875bf4a3ab12715033c6629"), looks := false }, kinds := [], alts := [], laidByText := true, laidKinds := [.data, .pinned], laidTests := true, laidLooks := .later }
def GradeCornersCardSaid : Prop := Claim7.holds Tryd.pinned (.plain (OpenSpec.ofChange gradeCornersSpec)) gradeCornersCard

/-- THE TIED CARD OF 'garmentlaw21.GradeBack'. -/
def gradeBackCard : Claim7 := { stood := { row := gradeBackRow, standIns := [], harness := (true, "222b4472e5f692c0dce54ccde5ab265cec6f24eb8875bf4a3ab12715033c6629"), looks := false }, kinds := [], alts := [], laidByText := true, laidKinds := [.data, .pinned], laidTests := true, laidLooks := .later }
def GradeBackCardSaid : Prop := Claim7.holds Tryd.pinned (.plain (OpenSpec.ofChange gradeBackSpec)) gradeBackCard

/-- THE TIED CARD OF 'garmentlaw21.GradeSameAreas'. -/
def gradeSameAreasCard : Claim7 := { stood := { row := gradeSameAreasRow, standIns := [], harness := (true, "222b4472e5f692c0dce54ccde5ab265cec6f24eb8875bf4a3ab12715033c6629"), looks := false }, kinds := [], alts := [], laidByText := true, laidKinds := [.data, .pinned], laidTests := true, laidLooks := .later }
def GradeSameAreasCardSaid : Prop := Claim7.holds Tryd.pinned (.plain (OpenSpec.ofChange gradeSameAreasSpec)) gradeSameAreasCard

/-- THE TIED CARD OF 'garmentlaw21.GradeMoves'. -/
def gradeMovesCard : Claim7 := { stood := { row := gradeMovesRow, standIns := [], harness := (true, "222b4472e5f692c0dce54ccde5ab265cec6f24eb8875bf4a3ab12715033c6629"), looks := false }, kinds := [], alts := [], laidByText := true, laidKinds := [.data, .pinned], laidTests := true, laidLooks := .later }
def GradeMovesCardSaid : Prop := Claim7.holds Tryd.pinned (.plain (OpenSpec.ofChange gradeMovesSpec)) gradeMovesCard

/-- THE TIED CARD OF 'garmentlaw21.GradeComposes'. -/
def gradeComposesCard : Claim7 := { stood := { row := gradeComposesRow, standIns := [], harness := (true, "222b4472e5f692c0dce54ccde5ab265cec6f24eb8875bf4a3ab12715033c6629"), looks := false }, kinds := [], alts := [], laidByText := true, laidKinds := [.data, .pinned], laidTests := true, laidLooks := .later }
def GradeComposesCardSaid : Prop := Claim7.holds Tryd.pinned (.plain (OpenSpec.ofChange gradeComposesSpec)) gradeComposesCard

/-- THE SECOND FORM's CARD OF 'garmentlaw21.GradeTurns'. -/
def gradeTurnsUptoCard : Claim7 := { stood := { row := gradeTurnsUptoRow, standIns := [], harness := (true, "222b4472e5f692c0dce54ccde5ab265cec6f24eb8875bf4a3ab12715033c6629"), looks := false }, kinds := [], alts := [], laidByText := true, laidKinds := [.data, .pinned], laidTests := true, laidLooks := .later }
def GradeTurnsUptoCardSaid : Prop := Claim7.holds Tryd.pinned (.plain (OpenSpec.upto gradeTurnsSpec)) gradeTurnsUptoCard

/-- THE SECOND FORM's CARD OF 'garmentlaw21.GradeCorners'. -/
def gradeCornersUptoCard : Claim7 := { stood := { row := gradeCornersUptoRow, standIns := [], harness := (true, "222b4472e5f692c0dce54ccde5ab265cec6f24eb8875bf4a3ab12715033c6629"), looks := false }, kinds := [], alts := [], laidByText := true, laidKinds := [.data, .pinned], laidTests := true, laidLooks := .later }
def GradeCornersUptoCardSaid : Prop := Claim7.holds Tryd.pinned (.plain (OpenSpec.upto gradeCornersSpec)) gradeCornersUptoCard

/-- THE SECOND FORM's CARD OF 'garmentlaw21.GradeBack'. -/
def gradeBackUptoCard : Claim7 := { stood := { row := gradeBackUptoRow, standIns := [], harness := (true, "222b4472e5f692c0dce54ccde5ab265cec6f24eb8875bf4a3ab12715033c6629"), looks := false }, kinds := [], alts := [], laidByText := true, laidKinds := [.data, .pinned], laidTests := true, laidLooks := .later }
def GradeBackUptoCardSaid : Prop := Claim7.holds Tryd.pinned (.plain (OpenSpec.upto gradeBackSpec)) gradeBackUptoCard

/-- THE SECOND FORM's CARD OF 'garmentlaw21.GradeSameAreas'. -/
def gradeSameAreasUptoCard : Claim7 := { stood := { row := gradeSameAreasUptoRow, standIns := [], harness := (true, "222b4472e5f692c0dce54ccde5ab265cec6f24eb8875bf4a3ab12715033c6629"), looks := false }, kinds := [], alts := [], laidByText := true, laidKinds := [.data, .pinned], laidTests := true, laidLooks := .later }
def GradeSameAreasUptoCardSaid : Prop := Claim7.holds Tryd.pinned (.plain (OpenSpec.upto gradeSameAreasSpec)) gradeSameAreasUptoCard

/-- THE SECOND FORM's CARD OF 'garmentlaw21.GradeMoves'. -/
def gradeMovesUptoCard : Claim7 := { stood := { row := gradeMovesUptoRow, standIns := [], harness := (true, "222b4472e5f692c0dce54ccde5ab265cec6f24eb8875bf4a3ab12715033c6629"), looks := false }, kinds := [], alts := [], laidByText := true, laidKinds := [.data, .pinned], laidTests := true, laidLooks := .later }
def GradeMovesUptoCardSaid : Prop := Claim7.holds Tryd.pinned (.plain (OpenSpec.upto gradeMovesSpec)) gradeMovesUptoCard

/-- THE SECOND FORM's CARD OF 'garmentlaw21.GradeComposes'. -/
def gradeComposesUptoCard : Claim7 := { stood := { row := gradeComposesUptoRow, standIns := [], harness := (true, "222b4472e5f692c0dce54ccde5ab265cec6f24eb8875bf4a3ab12715033c6629"), looks := false }, kinds := [], alts := [], laidByText := true, laidKinds := [.data, .pinned], laidTests := true, laidLooks := .later }
def GradeComposesUptoCardSaid : Prop := Claim7.holds Tryd.pinned (.plain (OpenSpec.upto gradeComposesSpec)) gradeComposesUptoCard
end Rows
end Go.Proofs.YtmdeiagmlabfmaaDoor
