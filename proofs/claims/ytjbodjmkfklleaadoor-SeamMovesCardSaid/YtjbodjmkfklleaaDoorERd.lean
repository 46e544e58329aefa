/- How the arguments of the laws are read. -/
import Derived.Test.YtjbodjmkfklleaaDoorAbRd
import Derived.Test.YtjbodjmkfklleaaDoorETy
set_option linter.unusedVariables false
set_option linter.unusedSimpArgs false
set_option linter.unusedSectionVars false

namespace Go.Ab
open Go.Proofs
set_option linter.unusedVariables false
theorem reads_3 : Reads Tryd.prog 3 (fun x : Int => [int x]) (fun x => InR x) := (reads_int Tryd.underlying3).map id (fun _ => rfl) (fun _ h => wf_i64 h)
theorem reads_4 : Reads Tryd.prog 4 (fun x : Bool => [boo x]) (fun _ => True) := reads_bool Tryd.underlying4
def okSpot (p : Spot) : Prop := (InR p.x) ∧ (InR p.y)
theorem reads_33 : Reads Tryd.prog 33 cSpot okSpot := (reads_struct (P := Tryd.prog) (t := 33) (N := 2) Tryd.underlying33 (by kernel_rfl) (readsF_cons (m := 1) rfl (by kernel_rfl) reads_3 (readsF_cons (m := 1) rfl (by kernel_rfl) reads_3 readsF_nil))).map (fun x => (⟨x.1, x.2.1⟩ : Spot)) (fun _ => rfl) (fun x h => ⟨h.1, h.2.1⟩)
theorem reads_29 : Reads Tryd.prog 29 (fun x : List Spot => [.sl 2 (x.map cSpot)]) (fun x => x.length ≤ maxLen ∧ ∀ a, a ∈ x → okSpot a) := reads_slice (f := cSpot) Tryd.underlying29 (by kernel_rfl) (by decide) reads_33 (fun _ => rfl)
def okTurn (p : Turn) : Prop := (True) ∧ (InR p.quarter)
theorem reads_31 : Reads Tryd.prog 31 cTurn okTurn := (reads_struct (P := Tryd.prog) (t := 31) (N := 2) Tryd.underlying31 (by kernel_rfl) (readsF_cons (m := 1) rfl (by kernel_rfl) reads_4 (readsF_cons (m := 1) rfl (by kernel_rfl) reads_3 readsF_nil))).map (fun x => (⟨x.1, x.2.1⟩ : Turn)) (fun _ => rfl) (fun x h => ⟨h.1, h.2.1⟩)
end Go.Ab
