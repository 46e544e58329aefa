/-
  DERIVED. GIVEN WITH THE SEED: THE CARDS: each row of YtjbodjmkfklleaaDoorRows.lean that lists a variable, with what it lists TIED to the program's text (the seventh form; the later family's looks); each row that meets fmt, with fmt's text TOLD by the authors' own Lean function (tested against real Go, not proved from fmt's source: count such statements apart). THE CARD IS WHAT COUNTS. Prove the row's statement (the work); the ties are given (YtjbodjmkfklleaaDoorTie.lean); close each card by the builder's one call (the guide's Derived/Test/ToyasCard.lean, 'card_holds'). Laid BY PROGRAM, IN A SANDBOX (cutbox-door.mjs). By AI agents, Wed Nov 11 2026. No macro, syntax, notation, axiom, sorry.
-/
import Derived.Test.YtjbodjmkfklleaaDoorRows
import GoSem.ClaimSeven
namespace Go.Proofs.YtjbodjmkfklleaaDoor
namespace Rows

/-- THE TIED CARD OF 'garmentlaw22.SeamPartners'. -/
def seamPartnersCard : Claim7 := { stood := { row := seamPartnersRow, standIns := [], harness := (true, "a75d70e48eb1f245b6b83a4730c622a9e42d2f15bdc02c92fe22b32e883cf5c3"), looks := false }, kinds := [], alts := [], laidByText := true, laidKinds := [.data, .pinned], laidTests := true, laidLooks := .later }
def SeamPartnersCardSaid : Prop := Claim7.holds Tryd.pinned (.plain (OpenSpec.ofChange seamPartnersSpec)) seamPartnersCard

/-- THE TIED CARD OF 'garmentlaw22.SeamCongruents'. -/
def seamCongruentsCard : Claim7 := { stood := { row := seamCongruentsRow, standIns := [], harness := (true, "a75d70e48eb1f245b6b83a4730c622a9e42d2f15bdc02c92fe22b32e883cf5c3"), looks := false }, kinds := [], alts := [], laidByText := true, laidKinds := [.data, .pinned], laidTests := true, laidLooks := .later }
def SeamCongruentsCardSaid : Prop := Claim7.holds Tryd.pinned (.plain (OpenSpec.ofChange seamCongruentsSpec)) seamCongruentsCard

/-- THE TIED CARD OF 'garmentlaw22.SeamPartner'. -/
def seamPartnerCard : Claim7 := { stood := { row := seamPartnerRow, standIns := [], harness := (true, "a75d70e48eb1f245b6b83a4730c622a9e42d2f15bdc02c92fe22b32e883cf5c3"), looks := false }, kinds := [], alts := [], laidByText := true, laidKinds := [.data, .pinned], laidTests := true, laidLooks := .later }
def SeamPartnerCardSaid : Prop := Claim7.holds Tryd.pinned (.plain (OpenSpec.ofChange seamPartnerSpec)) seamPartnerCard

/-- THE TIED CARD OF 'garmentlaw22.SeamSides'. -/
def seamSidesCard : Claim7 := { stood := { row := seamSidesRow, standIns := [], harness := (true, "a75d70e48eb1f245b6b83a4730c622a9e42d2f15bdc02c92fe22b32e883cf5c3"), looks := false }, kinds := [], alts := [], laidByText := true, laidKinds := [.data, .pinned], laidTests := true, laidLooks := .later }
def SeamSidesCardSaid : Prop := Claim7.holds Tryd.pinned (.plain (OpenSpec.ofChange seamSidesSpec)) seamSidesCard

/-- THE TIED CARD OF 'garmentlaw22.SeamGrades'. -/
def seamGradesCard : Claim7 := { stood := { row := seamGradesRow, standIns := [], harness := (true, "a75d70e48eb1f245b6b83a4730c622a9e42d2f15bdc02c92fe22b32e883cf5c3"), looks := false }, kinds := [], alts := [], laidByText := true, laidKinds := [.data, .pinned], laidTests := true, laidLooks := .later }
def SeamGradesCardSaid : Prop := Claim7.holds Tryd.pinned (.plain (OpenSpec.ofChange seamGradesSpec)) seamGradesCard

/-- THE TIED CARD OF 'garmentlaw22.SeamMoves'. -/
def seamMovesCard : Claim7 := { stood := { row := seamMovesRow, standIns := [], harness := (true, "a75d70e48eb1f245b6b83a4730c622a9e42d2f15bdc02c92fe22b32e883cf5c3"), looks := false }, kinds := [], alts := [], laidByText := true, laidKinds := [.data, .pinned], laidTests := true, laidLooks := .later }
def SeamMovesCardSaid : Prop := Claim7.holds Tryd.pinned (.plain (OpenSpec.ofChange seamMovesSpec)) seamMovesCard

/-- THE TIED CARD OF 'garmentlaw22.SeamEase'. -/
def seamEaseCard : Claim7 := { stood := { row := seamEaseRow, standIns := [], harness := (true, "a75d70e48eb1f245b6b83a4730c622a9e42d2f15bdc02c92fe22b32e883cf5c3"), looks := false }, kinds := [], alts := [], laidByText := true, laidKinds := [.data, .pinned], laidTests := true, laidLooks := .later }
def SeamEaseCardSaid : Prop := Claim7.holds Tryd.pinned (.plain (OpenSpec.ofChange seamEaseSpec)) seamEaseCard

/-- THE SECOND FORM's CARD OF 'garmentlaw22.SeamPartners'. -/
def seamPartnersUptoCard : Claim7 := { stood := { row := seamPartnersUptoRow, standIns := [], harness := (true, "a75d70e48eb1f245b6b83a4730c622a9e42d2f15bdc02c92fe22b32e883cf5c3"), looks := false }, kinds := [], alts := [], laidByText := true, laidKinds := [.data, .pinned], laidTests := true, laidLooks := .later }
def SeamPartnersUptoCardSaid : Prop := Claim7.holds Tryd.pinned (.plain (OpenSpec.upto seamPartnersSpec)) seamPartnersUptoCard

/-- THE SECOND FORM's CARD OF 'garmentlaw22.SeamCongruents'. -/
def seamCongruentsUptoCard : Claim7 := { stood := { row := seamCongruentsUptoRow, standIns := [], harness := (true, "a75d70e48eb1f245b6b83a4730c622a9e42d2f15bdc02c92fe22b32e883cf5c3"), looks := false }, kinds := [], alts := [], laidByText := true, laidKinds := [.data, .pinned], laidTests := true, laidLooks := .later }
def SeamCongruentsUptoCardSaid : Prop := Claim7.holds Tryd.pinned (.plain (OpenSpec.upto seamCongruentsSpec)) seamCongruentsUptoCard

/-- THE SECOND FORM's CARD OF 'garmentlaw22.SeamPartner'. -/
def seamPartnerUptoCard : Claim7 := { stood := { row := seamPartnerUptoRow, standIns := [], harness := (true, "a75d70e48eb1f245b6b83a4730c622a9e42d2f15bdc02c92fe22b32e883cf5c3"), looks := false }, kinds := [], alts := [], laidByText := true, laidKinds := [.data, .pinned], laidTests := true, laidLooks := .later }
def SeamPartnerUptoCardSaid : Prop := Claim7.holds Tryd.pinned (.plain (OpenSpec.upto seamPartnerSpec)) seamPartnerUptoCard

/-- THE SECOND FORM's CARD OF 'garmentlaw22.SeamSides'. -/
def seamSidesUptoCard : Claim7 := { stood := { row := seamSidesUptoRow, standIns := [], harness := (true, "a75d70e48eb1f245b6b83a4730c622a9e42d2f15bdc02c92fe22b32e883cf5c3"), looks := false }, kinds := [], alts := [], laidByText := true, laidKinds := [.data, .pinned], laidTests := true, laidLooks := .later }
def SeamSidesUptoCardSaid : Prop := Claim7.holds Tryd.pinned (.plain (OpenSpec.upto seamSidesSpec)) seamSidesUptoCard

/-- THE SECOND FORM's CARD OF 'garmentlaw22.SeamGrades'. -/
def seamGradesUptoCard : Claim7 := { stood := { row := seamGradesUptoRow, standIns := [], harness := (true, "a75d70e48eb1f245b6b83a4730c622a9e42d2f15bdc02c92fe22b32e883cf5c3"), looks := false }, kinds := [], alts := [], laidByText := true, laidKinds := [.data, .pinned], laidTests := true, laidLooks := .later }
def SeamGradesUptoCardSaid : Prop := Claim7.holds Tryd.pinned (.plain (OpenSpec.upto seamGradesSpec)) seamGradesUptoCard

/-- THE SECOND FORM's CARD OF 'garmentlaw22.SeamMoves'. -/
def seamMovesUptoCard : Claim7 := { stood := { row := seamMovesUptoRow, standIns := [], harness := (true, "a75d70e48eb1f245b6b83a4730c622a9e42d2f15bdc02c92fe22b32e883cf5c3"), looks := false }, kinds := [], alts := [], laidByText := true, laidKinds := [.data, .pinned], laidTests := true, laidLooks := .later }
def SeamMovesUptoCardSaid : Prop := Claim7.holds Tryd.pinned (.plain (OpenSpec.upto seamMovesSpec)) seamMovesUptoCard

/-- THE SECOND FORM's CARD OF 'garmentlaw22.SeamEase'. -/
def seamEaseUptoCard : Claim7 := { stood := { row := seamEaseUptoRow, standIns := [], harness := (true, "a75d70e48eb1f245b6b83a4730c622a9e42d2f15bdc02c92fe22b32e883cf5c3"), looks := false }, kinds := [], alts := [], laidByText := true, laidKinds := [.data, .pinned], laidTests := true, laidLooks := .later }
def SeamEaseUptoCardSaid : Prop := Claim7.holds Tryd.pinned (.plain (OpenSpec.upto seamEaseSpec)) seamEaseUptoCard
end Rows
end Go.Proofs.YtjbodjmkfklleaaDoor
