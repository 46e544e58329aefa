/- How the arguments of the laws are read. -/
import Derived.Test.YtjbodjmkfklleaaDoorAbRd
import Derived.Test.YtjbodjmkfklleaaDoorETy
set_option linter.unusedVariables false
set_option linter.unusedSimpArgs false
set_option linter.unusedSectionVars false

namespace Go.Ab
open Go.Proofs
set_option linter.unusedVariables false
theorem reads_3 : Reads Tryd.prog 3 (fun x : Int => [int x]) (fun x => InR x) := (reads_int Tryd.underlying3).map id (fun _ => rfl) (fun _ h => wf_i64 h)
theorem reads_4 : Reads Tryd.prog 4 (fun x : Bool => [boo x]) (fun _ => True) := reads_bool Tryd.underlying4
def okSpot (p : Spot) : Prop := (InR p.x) ∧ (InR p.y)
theorem reads_33 : Reads Tryd.prog 33 cSpot okSpot := (reads_struct (P := Tryd.prog) (t := 33) (N := 2) Tryd.underlying33 (by kernel_rfl) (readsF_cons (m := 1) rfl (by kernel_rfl) reads_3 (readsF_cons (m := 1) rfl (by kernel_rfl) reads_3 readsF_nil))).map (fun x => (⟨x.1, x.2.1⟩ : Spot)) (fun _ => rfl) (fun x h => ⟨h.1, h.2.1⟩)
theorem reads_29 : Reads Tryd.prog 29 (fun x : List Spot => [.sl 2 (x.map cSpot)]) (fun x => x.length ≤ maxLen ∧ ∀ a, a ∈ x → okSpot a) := reads_slice (f := cSpot) Tryd.underlying29 (by kernel_rfl) (by decide) reads_33 (fun _ => rfl)
theorem reads_9 : Reads Tryd.prog 9 (fun x : ByteArray => [str x]) (fun x => x.size ≤ maxLen) := reads_str Tryd.underlying9
theorem reads_40 : Reads Tryd.prog 40 (fun x : List Int => [.sl 1 (x.map cI)]) (fun x => x.length ≤ maxLen ∧ ∀ a, a ∈ x → InR a) := reads_slice (f := cI) Tryd.underlying40 (by kernel_rfl) (by decide) reads_3 (fun _ => rfl)
def okEdge (p : Edge) : Prop := (p.name.size ≤ maxLen) ∧ (p.line.length ≤ maxLen ∧ ∀ a, a ∈ p.line → okSpot a)
theorem reads_66 : Reads Tryd.prog 66 cEdge okEdge := (reads_struct (P := Tryd.prog) (t := 66) (N := 2) Tryd.underlying66 (by kernel_rfl) (readsF_cons (m := 1) rfl (by kernel_rfl) reads_9 (readsF_cons (m := 1) rfl (by kernel_rfl) reads_29 readsF_nil))).map (fun x => (⟨x.1, x.2.1⟩ : Edge)) (fun _ => rfl) (fun x h => ⟨h.1, h.2.1⟩)
theorem reads_56 : Reads Tryd.prog 56 (fun x : List Edge => [.sl 2 (x.map cEdge)]) (fun x => x.length ≤ maxLen ∧ ∀ a, a ∈ x → okEdge a) := reads_slice (f := cEdge) Tryd.underlying56 (by kernel_rfl) (by decide) reads_66 (fun _ => rfl)
def okNotch (p : Notch) : Prop := (InR p.edge) ∧ (InR p.at_)
theorem reads_190 : Reads Tryd.prog 190 cNotch okNotch := (reads_struct (P := Tryd.prog) (t := 190) (N := 2) Tryd.underlying190 (by kernel_rfl) (readsF_cons (m := 1) rfl (by kernel_rfl) reads_3 (readsF_cons (m := 1) rfl (by kernel_rfl) reads_3 readsF_nil))).map (fun x => (⟨x.1, x.2.1⟩ : Notch)) (fun _ => rfl) (fun x h => ⟨h.1, h.2.1⟩)
theorem reads_57 : Reads Tryd.prog 57 (fun x : List Notch => [.sl 2 (x.map cNotch)]) (fun x => x.length ≤ maxLen ∧ ∀ a, a ∈ x → okNotch a) := reads_slice (f := cNotch) Tryd.underlying57 (by kernel_rfl) (by decide) reads_190 (fun _ => rfl)
def okPiece (p : Piece) : Prop := (p.name.size ≤ maxLen) ∧ (p.edges.length ≤ maxLen ∧ ∀ a, a ∈ p.edges → okEdge a) ∧ (InR p.grain) ∧ (p.notches.length ≤ maxLen ∧ ∀ a, a ∈ p.notches → okNotch a) ∧ (p.corners.length ≤ maxLen ∧ ∀ a, a ∈ p.corners → okSpot a) ∧ (p.widths.length ≤ maxLen ∧ ∀ a, a ∈ p.widths → InR a) ∧ (True)
theorem reads_59 : Reads Tryd.prog 59 cPiece okPiece := (reads_struct (P := Tryd.prog) (t := 59) (N := 7) Tryd.underlying59 (by kernel_rfl) (readsF_cons (m := 1) rfl (by kernel_rfl) reads_9 (readsF_cons (m := 1) rfl (by kernel_rfl) reads_56 (readsF_cons (m := 1) rfl (by kernel_rfl) reads_3 (readsF_cons (m := 1) rfl (by kernel_rfl) reads_57 (readsF_cons (m := 1) rfl (by kernel_rfl) reads_29 (readsF_cons (m := 1) rfl (by kernel_rfl) reads_40 (readsF_cons (m := 1) rfl (by kernel_rfl) reads_4 readsF_nil)))))))).map (fun x => (⟨x.1, x.2.1, x.2.2.1, x.2.2.2.1, x.2.2.2.2.1, x.2.2.2.2.2.1, x.2.2.2.2.2.2.1⟩ : Piece)) (fun _ => rfl) (fun x h => ⟨h.1, h.2.1, h.2.2.1, h.2.2.2.1, h.2.2.2.2.1, h.2.2.2.2.2.1, h.2.2.2.2.2.2.1⟩)
def okGarmentlaw22Edges (p : Garmentlaw22Edges) : Prop := (InR p.i) ∧ (InR p.k) ∧ (InR p.multiple)
theorem reads_61 : Reads Tryd.prog 61 cGarmentlaw22Edges okGarmentlaw22Edges := (reads_struct (P := Tryd.prog) (t := 61) (N := 3) Tryd.underlying61 (by kernel_rfl) (readsF_cons (m := 1) rfl (by kernel_rfl) reads_3 (readsF_cons (m := 1) rfl (by kernel_rfl) reads_3 (readsF_cons (m := 1) rfl (by kernel_rfl) reads_3 readsF_nil)))).map (fun x => (⟨x.1, x.2.1, x.2.2.1⟩ : Garmentlaw22Edges)) (fun _ => rfl) (fun x h => ⟨h.1, h.2.1, h.2.2.1⟩)
end Go.Ab
