/-
  NARROWER THAN 'FOR EVERY INPUT', by the rows' own cells (each row's printed sentence says how): SeamPartners: laid · SeamCongruents: laid · SeamPartner: laid · SeamSides: laid · SeamGrades: laid · SeamMoves: laid · SeamEase: laid.
  DERIVED. THE GIVEN ROWS OF THIS SEAT. 7 by the template 'for every input the law returns true; each argument reads behind the call as it read before'; 0 by the template 'total and deterministic' (their statements: YtjbodjmkfklleaaDoorTotals.lean).
  GIVEN WITH THE SEED: the statements are not yours to turn. If you find one false, say at which input.
  Laid BY PROGRAM, IN A SANDBOX (cutbox-rows.mjs): the forced cells as the released guide's own fill.sh prints them over the translation 80a40dec248ca897… (all of the seat's roots in one cut). By AI agents, Wed Nov 11 2026. No macro, syntax, notation, axiom, sorry.
-/
import Derived.Test.YtjbodjmkfklleaaDoorChecked
import GoSem.PinnedTables
import GoSem.Claim
import GoSem.ClaimJoined
import GoSem.ClaimMapViews
import Derived.JoinedTies
import Derived.KernelRfl
namespace Go.Proofs.YtjbodjmkfklleaaDoor
/- THE CELL 'sum', in the pinned program and in every row, IS THE sha256 OF THE DUMP (.gsa) THAT YtjbodjmkfklleaaDoorProg.lean LOADS. Nothing in Lean hashes anything: it is a label: what it is worth is what the hold of that sum in a sandbox is worth. -/
noncomputable def Tryd.pinned : Pinned := { name := "ytjbodjmkfklleaadoor", sum := "80a40dec248ca89744e9d87763cd3a66ea489a74f8ee7c347c25a61bf1cb1d8c", checked := Tryd.checked }
namespace Rows
def none {H : Type} : Left H := { results := [], args := [] }

/- WHAT THE LISTED PACKAGE-LEVEL VARIABLES READ AS WHEN THE CALL BEGINS. Each datum BY PROGRAM (the guide's laid-datum.mjs) off the statement by which the dump's own 'gosem.cut.vars' lays the variable. In a bare row this is a premise. The card (YtjbodjmkfklleaaDoorCards.lean) ties it to the program's text. -/
def laid_unicode_utf8_acceptRanges {H : Type} : DataW H := .agg [.agg [.lit (.int .u8 128), .lit (.int .u8 191)], .agg [.lit (.int .u8 160), .lit (.int .u8 191)], .agg [.lit (.int .u8 128), .lit (.int .u8 159)], .agg [.lit (.int .u8 144), .lit (.int .u8 191)], .agg [.lit (.int .u8 128), .lit (.int .u8 143)], .agg [.lit (.int .u8 0), .lit (.int .u8 0)], .agg [.lit (.int .u8 0), .lit (.int .u8 0)], .agg [.lit (.int .u8 0), .lit (.int .u8 0)], .agg [.lit (.int .u8 0), .lit (.int .u8 0)], .agg [.lit (.int .u8 0), .lit (.int .u8 0)], .agg [.lit (.int .u8 0), .lit (.int .u8 0)], .agg [.lit (.int .u8 0), .lit (.int .u8 0)], .agg [.lit (.int .u8 0), .lit (.int .u8 0)], .agg [.lit (.int .u8 0), .lit (.int .u8 0)], .agg [.lit (.int .u8 0), .lit (.int .u8 0)], .agg [.lit (.int .u8 0), .lit (.int .u8 0)]]
/-- One of Go's own tables, pinned by name: the form's constant. -/
def laid_unicode_utf8_first : DataW Unit := Go.Pinned.utf8First

/-- 'garmentlaw22.SeamPartners': WHATEVER THE INPUT: true; the input reads as it did. -/
def seamPartnersSpec : ChangeSpec := { name := "seamPartners", fn := fun _ => fun
  | [d] => { results := [.lit (.bool true)], args := [d] }
  | _ => none }
def seamPartnersRow : OpenClaim := { program := "ytjbodjmkfklleaadoor", sum := "80a40dec248ca89744e9d87763cd3a66ea489a74f8ee7c347c25a61bf1cb1d8c", func := "garment/garmentlaw22.SeamPartners", spec := "seamPartners", inPlace := ["internal/bytealg.IndexByteString", "internal/bytealg.IndexString", "math.sqrt"], unfollowed := true, recurses := true, named := ["math/bits.divideError", "math/bits.overflowError", "unicode/utf8.first", "unicode/utf8.acceptRanges", "internal/bytealg.MaxLen"], apart := false, laid := [("unicode/utf8.acceptRanges", laid_unicode_utf8_acceptRanges), ("unicode/utf8.first", laid_unicode_utf8_first)] }
def SeamPartnersSaid : Prop := seamPartnersRow.holds Tryd.pinned (OpenSpec.ofChange seamPartnersSpec)

/-- ITS FALSE NEIGHBOUR: 'it returns false'. Refute it at one input. -/
def seamPartnersWrong : ChangeSpec := { name := "seamPartners", fn := fun _ => fun
  | [d] => { results := [.lit (.bool false)], args := [d] }
  | _ => none }
def SeamPartnersWrongFalsely : Prop := seamPartnersRow.holds Tryd.pinned (OpenSpec.ofChange seamPartnersWrong)

/-- 'garmentlaw22.SeamCongruents': WHATEVER THE INPUT: true; the input reads as it did. -/
def seamCongruentsSpec : ChangeSpec := { name := "seamCongruents", fn := fun _ => fun
  | [d1, d2] => { results := [.lit (.bool true)], args := [d1, d2] }
  | _ => none }
def seamCongruentsRow : OpenClaim := { program := "ytjbodjmkfklleaadoor", sum := "80a40dec248ca89744e9d87763cd3a66ea489a74f8ee7c347c25a61bf1cb1d8c", func := "garment/garmentlaw22.SeamCongruents", spec := "seamCongruents", inPlace := ["internal/bytealg.IndexByteString", "internal/bytealg.IndexString", "math.sqrt"], unfollowed := true, recurses := true, named := ["unicode/utf8.first", "unicode/utf8.acceptRanges", "math/bits.divideError", "math/bits.overflowError", "internal/bytealg.MaxLen"], apart := false, laid := [("unicode/utf8.acceptRanges", laid_unicode_utf8_acceptRanges), ("unicode/utf8.first", laid_unicode_utf8_first)] }
def SeamCongruentsSaid : Prop := seamCongruentsRow.holds Tryd.pinned (OpenSpec.ofChange seamCongruentsSpec)

/-- ITS FALSE NEIGHBOUR: 'it returns false'. Refute it at one input. -/
def seamCongruentsWrong : ChangeSpec := { name := "seamCongruents", fn := fun _ => fun
  | [d1, d2] => { results := [.lit (.bool false)], args := [d1, d2] }
  | _ => none }
def SeamCongruentsWrongFalsely : Prop := seamCongruentsRow.holds Tryd.pinned (OpenSpec.ofChange seamCongruentsWrong)

/-- 'garmentlaw22.SeamPartner': WHATEVER THE INPUT: true; the input reads as it did. -/
def seamPartnerSpec : ChangeSpec := { name := "seamPartner", fn := fun _ => fun
  | [d1, d2, d3] => { results := [.lit (.bool true)], args := [d1, d2, d3] }
  | _ => none }
def seamPartnerRow : OpenClaim := { program := "ytjbodjmkfklleaadoor", sum := "80a40dec248ca89744e9d87763cd3a66ea489a74f8ee7c347c25a61bf1cb1d8c", func := "garment/garmentlaw22.SeamPartner", spec := "seamPartner", inPlace := ["internal/bytealg.IndexByteString", "internal/bytealg.IndexString", "math.sqrt"], unfollowed := true, recurses := true, named := ["math/bits.divideError", "math/bits.overflowError", "unicode/utf8.first", "unicode/utf8.acceptRanges", "internal/bytealg.MaxLen"], apart := false, laid := [("unicode/utf8.acceptRanges", laid_unicode_utf8_acceptRanges), ("unicode/utf8.first", laid_unicode_utf8_first)] }
def SeamPartnerSaid : Prop := seamPartnerRow.holds Tryd.pinned (OpenSpec.ofChange seamPartnerSpec)

/-- ITS FALSE NEIGHBOUR: 'it returns false'. Refute it at one input. -/
def seamPartnerWrong : ChangeSpec := { name := "seamPartner", fn := fun _ => fun
  | [d1, d2, d3] => { results := [.lit (.bool false)], args := [d1, d2, d3] }
  | _ => none }
def SeamPartnerWrongFalsely : Prop := seamPartnerRow.holds Tryd.pinned (OpenSpec.ofChange seamPartnerWrong)

/-- 'garmentlaw22.SeamSides': WHATEVER THE INPUT: true; the input reads as it did. -/
def seamSidesSpec : ChangeSpec := { name := "seamSides", fn := fun _ => fun
  | [d1, d2, d3] => { results := [.lit (.bool true)], args := [d1, d2, d3] }
  | _ => none }
def seamSidesRow : OpenClaim := { program := "ytjbodjmkfklleaadoor", sum := "80a40dec248ca89744e9d87763cd3a66ea489a74f8ee7c347c25a61bf1cb1d8c", func := "garment/garmentlaw22.SeamSides", spec := "seamSides", inPlace := ["internal/bytealg.IndexByteString", "internal/bytealg.IndexString", "math.sqrt"], unfollowed := true, recurses := true, named := ["unicode/utf8.first", "unicode/utf8.acceptRanges", "math/bits.divideError", "math/bits.overflowError", "internal/bytealg.MaxLen"], apart := false, laid := [("unicode/utf8.acceptRanges", laid_unicode_utf8_acceptRanges), ("unicode/utf8.first", laid_unicode_utf8_first)] }
def SeamSidesSaid : Prop := seamSidesRow.holds Tryd.pinned (OpenSpec.ofChange seamSidesSpec)

/-- ITS FALSE NEIGHBOUR: 'it returns false'. Refute it at one input. -/
def seamSidesWrong : ChangeSpec := { name := "seamSides", fn := fun _ => fun
  | [d1, d2, d3] => { results := [.lit (.bool false)], args := [d1, d2, d3] }
  | _ => none }
def SeamSidesWrongFalsely : Prop := seamSidesRow.holds Tryd.pinned (OpenSpec.ofChange seamSidesWrong)

/-- 'garmentlaw22.SeamGrades': WHATEVER THE INPUT: true; the input reads as it did. -/
def seamGradesSpec : ChangeSpec := { name := "seamGrades", fn := fun _ => fun
  | [d1, d2, d3] => { results := [.lit (.bool true)], args := [d1, d2, d3] }
  | _ => none }
def seamGradesRow : OpenClaim := { program := "ytjbodjmkfklleaadoor", sum := "80a40dec248ca89744e9d87763cd3a66ea489a74f8ee7c347c25a61bf1cb1d8c", func := "garment/garmentlaw22.SeamGrades", spec := "seamGrades", inPlace := ["internal/bytealg.IndexByteString", "internal/bytealg.IndexString", "math.sqrt"], unfollowed := true, recurses := true, named := ["unicode/utf8.first", "unicode/utf8.acceptRanges", "math/bits.divideError", "math/bits.overflowError", "internal/bytealg.MaxLen"], apart := false, laid := [("unicode/utf8.acceptRanges", laid_unicode_utf8_acceptRanges), ("unicode/utf8.first", laid_unicode_utf8_first)] }
def SeamGradesSaid : Prop := seamGradesRow.holds Tryd.pinned (OpenSpec.ofChange seamGradesSpec)

/-- ITS FALSE NEIGHBOUR: 'it returns false'. Refute it at one input. -/
def seamGradesWrong : ChangeSpec := { name := "seamGrades", fn := fun _ => fun
  | [d1, d2, d3] => { results := [.lit (.bool false)], args := [d1, d2, d3] }
  | _ => none }
def SeamGradesWrongFalsely : Prop := seamGradesRow.holds Tryd.pinned (OpenSpec.ofChange seamGradesWrong)

/-- 'garmentlaw22.SeamMoves': WHATEVER THE INPUT: true; the input reads as it did. -/
def seamMovesSpec : ChangeSpec := { name := "seamMoves", fn := fun _ => fun
  | [d1, d2, d3] => { results := [.lit (.bool true)], args := [d1, d2, d3] }
  | _ => none }
def seamMovesRow : OpenClaim := { program := "ytjbodjmkfklleaadoor", sum := "80a40dec248ca89744e9d87763cd3a66ea489a74f8ee7c347c25a61bf1cb1d8c", func := "garment/garmentlaw22.SeamMoves", spec := "seamMoves", inPlace := ["internal/bytealg.IndexByteString", "internal/bytealg.IndexString", "math.sqrt"], unfollowed := true, recurses := true, named := ["unicode/utf8.first", "unicode/utf8.acceptRanges", "math/bits.divideError", "math/bits.overflowError", "internal/bytealg.MaxLen"], apart := false, laid := [("unicode/utf8.acceptRanges", laid_unicode_utf8_acceptRanges), ("unicode/utf8.first", laid_unicode_utf8_first)] }
def SeamMovesSaid : Prop := seamMovesRow.holds Tryd.pinned (OpenSpec.ofChange seamMovesSpec)

/-- ITS FALSE NEIGHBOUR: 'it returns false'. Refute it at one input. -/
def seamMovesWrong : ChangeSpec := { name := "seamMoves", fn := fun _ => fun
  | [d1, d2, d3] => { results := [.lit (.bool false)], args := [d1, d2, d3] }
  | _ => none }
def SeamMovesWrongFalsely : Prop := seamMovesRow.holds Tryd.pinned (OpenSpec.ofChange seamMovesWrong)

/-- 'garmentlaw22.SeamEase': WHATEVER THE INPUT: true; the input reads as it did. -/
def seamEaseSpec : ChangeSpec := { name := "seamEase", fn := fun _ => fun
  | [d1, d2] => { results := [.lit (.bool true)], args := [d1, d2] }
  | _ => none }
def seamEaseRow : OpenClaim := { program := "ytjbodjmkfklleaadoor", sum := "80a40dec248ca89744e9d87763cd3a66ea489a74f8ee7c347c25a61bf1cb1d8c", func := "garment/garmentlaw22.SeamEase", spec := "seamEase", inPlace := ["internal/bytealg.IndexByteString", "internal/bytealg.IndexString", "math.sqrt"], unfollowed := true, recurses := true, named := ["unicode/utf8.first", "unicode/utf8.acceptRanges", "math/bits.divideError", "math/bits.overflowError", "internal/bytealg.MaxLen"], apart := false, laid := [("unicode/utf8.acceptRanges", laid_unicode_utf8_acceptRanges), ("unicode/utf8.first", laid_unicode_utf8_first)] }
def SeamEaseSaid : Prop := seamEaseRow.holds Tryd.pinned (OpenSpec.ofChange seamEaseSpec)

/-- ITS FALSE NEIGHBOUR: 'it returns false'. Refute it at one input. -/
def seamEaseWrong : ChangeSpec := { name := "seamEase", fn := fun _ => fun
  | [d1, d2] => { results := [.lit (.bool false)], args := [d1, d2] }
  | _ => none }
def SeamEaseWrongFalsely : Prop := seamEaseRow.holds Tryd.pinned (OpenSpec.ofChange seamEaseWrong)

/- THE SECOND FORM. 'bulk': how many values and letters a reading holds, each counted each time it is reached (what is shared counts as often as it is met; a slice's spare places count too). A statement '..UptoSaid' is the law's where the arguments, and the package variables that the reading takes, are together of bulk at most 1048576: NARROWER than '..Said'. Prove '..Said' where nothing that the law and all that it calls make is longer than what came in: it says more and counts as full. Else prove '..UptoSaid'. A law counts once. -/
mutual
def uptoBulk {H : Type} : DataW H → Nat
  | .lit (.string bytes) => bytes.length + 1
  | .lit _ => 1
  | .nil => 1
  | .ptr d => uptoBulk d + 1
  | .slice elems spare => uptoBulkAll elems + uptoBulkAll spare + 1
  | .agg parts => uptoBulkAll parts + 1
  | .iface _ d => uptoBulk d + 1
  | .map entries => uptoBulkEntries entries + 1
  | .held _ => 1
def uptoBulkAll {H : Type} : List (DataW H) → Nat
  | [] => 0
  | d :: r => uptoBulk d + uptoBulkAll r
def uptoBulkEntries {H : Type} : List (Lit × DataW H) → Nat
  | [] => 0
  | x :: r => uptoBulkEntry x + uptoBulkEntries r
def uptoBulkEntry {H : Type} : Lit × DataW H → Nat
  | (.string bytes, d) => bytes.length + uptoBulk d + 1
  | (_, d) => uptoBulk d + 1
 end
def uptoSmall : (H : Type) → List (DataW H) → Bool := fun _ ds => decide (uptoBulkAll ds ≤ 1048576)
def OpenSpec.upto (s : _root_.Go.ChangeSpec) : _root_.Go.OpenSpec := { _root_.Go.OpenSpec.ofChange s with cond := some uptoSmall }

/-- 'garmentlaw22.SeamPartners', WHERE WHAT IT READS IS OF BULK AT MOST 1048576: true; the input reads as it did. -/
def seamPartnersUptoRow : OpenClaim := { program := "ytjbodjmkfklleaadoor", sum := "80a40dec248ca89744e9d87763cd3a66ea489a74f8ee7c347c25a61bf1cb1d8c", func := "garment/garmentlaw22.SeamPartners", spec := "seamPartners", inPlace := ["internal/bytealg.IndexByteString", "internal/bytealg.IndexString", "math.sqrt"], unfollowed := true, recurses := true, named := ["math/bits.divideError", "math/bits.overflowError", "unicode/utf8.first", "unicode/utf8.acceptRanges", "internal/bytealg.MaxLen"], apart := false, laid := [("unicode/utf8.acceptRanges", laid_unicode_utf8_acceptRanges), ("unicode/utf8.first", laid_unicode_utf8_first)], narrowed := true }
def SeamPartnersUptoSaid : Prop := seamPartnersUptoRow.holds Tryd.pinned (OpenSpec.upto seamPartnersSpec)

/-- 'garmentlaw22.SeamCongruents', WHERE WHAT IT READS IS OF BULK AT MOST 1048576: true; the input reads as it did. -/
def seamCongruentsUptoRow : OpenClaim := { program := "ytjbodjmkfklleaadoor", sum := "80a40dec248ca89744e9d87763cd3a66ea489a74f8ee7c347c25a61bf1cb1d8c", func := "garment/garmentlaw22.SeamCongruents", spec := "seamCongruents", inPlace := ["internal/bytealg.IndexByteString", "internal/bytealg.IndexString", "math.sqrt"], unfollowed := true, recurses := true, named := ["unicode/utf8.first", "unicode/utf8.acceptRanges", "math/bits.divideError", "math/bits.overflowError", "internal/bytealg.MaxLen"], apart := false, laid := [("unicode/utf8.acceptRanges", laid_unicode_utf8_acceptRanges), ("unicode/utf8.first", laid_unicode_utf8_first)], narrowed := true }
def SeamCongruentsUptoSaid : Prop := seamCongruentsUptoRow.holds Tryd.pinned (OpenSpec.upto seamCongruentsSpec)

/-- 'garmentlaw22.SeamPartner', WHERE WHAT IT READS IS OF BULK AT MOST 1048576: true; the input reads as it did. -/
def seamPartnerUptoRow : OpenClaim := { program := "ytjbodjmkfklleaadoor", sum := "80a40dec248ca89744e9d87763cd3a66ea489a74f8ee7c347c25a61bf1cb1d8c", func := "garment/garmentlaw22.SeamPartner", spec := "seamPartner", inPlace := ["internal/bytealg.IndexByteString", "internal/bytealg.IndexString", "math.sqrt"], unfollowed := true, recurses := true, named := ["math/bits.divideError", "math/bits.overflowError", "unicode/utf8.first", "unicode/utf8.acceptRanges", "internal/bytealg.MaxLen"], apart := false, laid := [("unicode/utf8.acceptRanges", laid_unicode_utf8_acceptRanges), ("unicode/utf8.first", laid_unicode_utf8_first)], narrowed := true }
def SeamPartnerUptoSaid : Prop := seamPartnerUptoRow.holds Tryd.pinned (OpenSpec.upto seamPartnerSpec)

/-- 'garmentlaw22.SeamSides', WHERE WHAT IT READS IS OF BULK AT MOST 1048576: true; the input reads as it did. -/
def seamSidesUptoRow : OpenClaim := { program := "ytjbodjmkfklleaadoor", sum := "80a40dec248ca89744e9d87763cd3a66ea489a74f8ee7c347c25a61bf1cb1d8c", func := "garment/garmentlaw22.SeamSides", spec := "seamSides", inPlace := ["internal/bytealg.IndexByteString", "internal/bytealg.IndexString", "math.sqrt"], unfollowed := true, recurses := true, named := ["unicode/utf8.first", "unicode/utf8.acceptRanges", "math/bits.divideError", "math/bits.overflowError", "internal/bytealg.MaxLen"], apart := false, laid := [("unicode/utf8.acceptRanges", laid_unicode_utf8_acceptRanges), ("unicode/utf8.first", laid_unicode_utf8_first)], narrowed := true }
def SeamSidesUptoSaid : Prop := seamSidesUptoRow.holds Tryd.pinned (OpenSpec.upto seamSidesSpec)

/-- 'garmentlaw22.SeamGrades', WHERE WHAT IT READS IS OF BULK AT MOST 1048576: true; the input reads as it did. -/
def seamGradesUptoRow : OpenClaim := { program := "ytjbodjmkfklleaadoor", sum := "80a40dec248ca89744e9d87763cd3a66ea489a74f8ee7c347c25a61bf1cb1d8c", func := "garment/garmentlaw22.SeamGrades", spec := "seamGrades", inPlace := ["internal/bytealg.IndexByteString", "internal/bytealg.IndexString", "math.sqrt"], unfollowed := true, recurses := true, named := ["unicode/utf8.first", "unicode/utf8.acceptRanges", "math/bits.divideError", "math/bits.overflowError", "internal/bytealg.MaxLen"], apart := false, laid := [("unicode/utf8.acceptRanges", laid_unicode_utf8_acceptRanges), ("unicode/utf8.first", laid_unicode_utf8_first)], narrowed := true }
def SeamGradesUptoSaid : Prop := seamGradesUptoRow.holds Tryd.pinned (OpenSpec.upto seamGradesSpec)

/-- 'garmentlaw22.SeamMoves', WHERE WHAT IT READS IS OF BULK AT MOST 1048576: true; the input reads as it did. -/
def seamMovesUptoRow : OpenClaim := { program := "ytjbodjmkfklleaadoor", sum := "80a40dec248ca89744e9d87763cd3a66ea489a74f8ee7c347c25a61bf1cb1d8c", func := "garment/garmentlaw22.SeamMoves", spec := "seamMoves", inPlace := ["internal/bytealg.IndexByteString", "internal/bytealg.IndexString", "math.sqrt"], unfollowed := true, recurses := true, named := ["unicode/utf8.first", "unicode/utf8.acceptRanges", "math/bits.divideError", "math/bits.overflowError", "internal/bytealg.MaxLen"], apart := false, laid := [("unicode/utf8.acceptRanges", laid_unicode_utf8_acceptRanges), ("unicode/utf8.first", laid_unicode_utf8_first)], narrowed := true }
def SeamMovesUptoSaid : Prop := seamMovesUptoRow.holds Tryd.pinned (OpenSpec.upto seamMovesSpec)

/-- 'garmentlaw22.SeamEase', WHERE WHAT IT READS IS OF BULK AT MOST 1048576: true; the input reads as it did. -/
def seamEaseUptoRow : OpenClaim := { program := "ytjbodjmkfklleaadoor", sum := "80a40dec248ca89744e9d87763cd3a66ea489a74f8ee7c347c25a61bf1cb1d8c", func := "garment/garmentlaw22.SeamEase", spec := "seamEase", inPlace := ["internal/bytealg.IndexByteString", "internal/bytealg.IndexString", "math.sqrt"], unfollowed := true, recurses := true, named := ["unicode/utf8.first", "unicode/utf8.acceptRanges", "math/bits.divideError", "math/bits.overflowError", "internal/bytealg.MaxLen"], apart := false, laid := [("unicode/utf8.acceptRanges", laid_unicode_utf8_acceptRanges), ("unicode/utf8.first", laid_unicode_utf8_first)], narrowed := true }
def SeamEaseUptoSaid : Prop := seamEaseUptoRow.holds Tryd.pinned (OpenSpec.upto seamEaseSpec)

end Rows
end Go.Proofs.YtjbodjmkfklleaaDoor
