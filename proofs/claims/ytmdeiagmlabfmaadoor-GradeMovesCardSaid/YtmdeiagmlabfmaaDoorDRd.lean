/- How the arguments of the laws are read. -/
import Derived.Test.YtmdeiagmlabfmaaDoorAbRd
import Derived.Test.YtmdeiagmlabfmaaDoorDTy
set_option linter.unusedVariables false
set_option linter.unusedSimpArgs false
set_option linter.unusedSectionVars false

namespace Go.Ab
open Go.Proofs
set_option linter.unusedVariables false
theorem reads_9 : Reads Tryd.prog 9 (fun x : ByteArray => [str x]) (fun x => x.size ≤ maxLen) := reads_str Tryd.underlying9
theorem reads_3 : Reads Tryd.prog 3 (fun x : Int => [int x]) (fun x => InR x) := (reads_int Tryd.underlying3).map id (fun _ => rfl) (fun _ h => wf_i64 h)
def okSpot (p : Spot) : Prop := (InR p.x) ∧ (InR p.y)
theorem reads_42 : Reads Tryd.prog 42 cSpot okSpot := (reads_struct (P := Tryd.prog) (t := 42) (N := 2) Tryd.underlying42 (by kernel_rfl) (readsF_cons (m := 1) rfl (by kernel_rfl) reads_3 (readsF_cons (m := 1) rfl (by kernel_rfl) reads_3 readsF_nil))).map (fun x => (⟨x.1, x.2.1⟩ : Spot)) (fun _ => rfl) (fun x h => ⟨h.1, h.2.1⟩)
theorem reads_24 : Reads Tryd.prog 24 (fun x : List Spot => [.sl 2 (x.map cSpot)]) (fun x => x.length ≤ maxLen ∧ ∀ a, a ∈ x → okSpot a) := reads_slice (f := cSpot) Tryd.underlying24 (by kernel_rfl) (by decide) reads_42 (fun _ => rfl)
def okEdge (p : Edge) : Prop := (p.name.size ≤ maxLen) ∧ (p.line.length ≤ maxLen ∧ ∀ a, a ∈ p.line → okSpot a)
theorem reads_40 : Reads Tryd.prog 40 cEdge okEdge := (reads_struct (P := Tryd.prog) (t := 40) (N := 2) Tryd.underlying40 (by kernel_rfl) (readsF_cons (m := 1) rfl (by kernel_rfl) reads_9 (readsF_cons (m := 1) rfl (by kernel_rfl) reads_24 readsF_nil))).map (fun x => (⟨x.1, x.2.1⟩ : Edge)) (fun _ => rfl) (fun x h => ⟨h.1, h.2.1⟩)
theorem reads_22 : Reads Tryd.prog 22 (fun x : List Edge => [.sl 2 (x.map cEdge)]) (fun x => x.length ≤ maxLen ∧ ∀ a, a ∈ x → okEdge a) := reads_slice (f := cEdge) Tryd.underlying22 (by kernel_rfl) (by decide) reads_40 (fun _ => rfl)
def okNotch (p : Notch) : Prop := (InR p.edge) ∧ (InR p.at_)
theorem reads_52 : Reads Tryd.prog 52 cNotch okNotch := (reads_struct (P := Tryd.prog) (t := 52) (N := 2) Tryd.underlying52 (by kernel_rfl) (readsF_cons (m := 1) rfl (by kernel_rfl) reads_3 (readsF_cons (m := 1) rfl (by kernel_rfl) reads_3 readsF_nil))).map (fun x => (⟨x.1, x.2.1⟩ : Notch)) (fun _ => rfl) (fun x h => ⟨h.1, h.2.1⟩)
theorem reads_23 : Reads Tryd.prog 23 (fun x : List Notch => [.sl 2 (x.map cNotch)]) (fun x => x.length ≤ maxLen ∧ ∀ a, a ∈ x → okNotch a) := reads_slice (f := cNotch) Tryd.underlying23 (by kernel_rfl) (by decide) reads_52 (fun _ => rfl)
theorem reads_25 : Reads Tryd.prog 25 (fun x : List Int => [.sl 1 (x.map cI)]) (fun x => x.length ≤ maxLen ∧ ∀ a, a ∈ x → InR a) := reads_slice (f := cI) Tryd.underlying25 (by kernel_rfl) (by decide) reads_3 (fun _ => rfl)
theorem reads_4 : Reads Tryd.prog 4 (fun x : Bool => [boo x]) (fun _ => True) := reads_bool Tryd.underlying4
def okPiece (p : Piece) : Prop := (p.name.size ≤ maxLen) ∧ (p.edges.length ≤ maxLen ∧ ∀ a, a ∈ p.edges → okEdge a) ∧ (InR p.grain) ∧ (p.notches.length ≤ maxLen ∧ ∀ a, a ∈ p.notches → okNotch a) ∧ (p.corners.length ≤ maxLen ∧ ∀ a, a ∈ p.corners → okSpot a) ∧ (p.widths.length ≤ maxLen ∧ ∀ a, a ∈ p.widths → InR a) ∧ (True)
theorem reads_27 : Reads Tryd.prog 27 cPiece okPiece := (reads_struct (P := Tryd.prog) (t := 27) (N := 7) Tryd.underlying27 (by kernel_rfl) (readsF_cons (m := 1) rfl (by kernel_rfl) reads_9 (readsF_cons (m := 1) rfl (by kernel_rfl) reads_22 (readsF_cons (m := 1) rfl (by kernel_rfl) reads_3 (readsF_cons (m := 1) rfl (by kernel_rfl) reads_23 (readsF_cons (m := 1) rfl (by kernel_rfl) reads_24 (readsF_cons (m := 1) rfl (by kernel_rfl) reads_25 (readsF_cons (m := 1) rfl (by kernel_rfl) reads_4 readsF_nil)))))))).map (fun x => (⟨x.1, x.2.1, x.2.2.1, x.2.2.2.1, x.2.2.2.2.1, x.2.2.2.2.2.1, x.2.2.2.2.2.2.1⟩ : Piece)) (fun _ => rfl) (fun x h => ⟨h.1, h.2.1, h.2.2.1, h.2.2.2.1, h.2.2.2.2.1, h.2.2.2.2.2.1, h.2.2.2.2.2.2.1⟩)
end Go.Ab
