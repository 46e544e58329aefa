/- How the arguments of the laws are read. -/
import Derived.Test.YtjbodjmkfklleaaDoorAbRd
import Derived.Test.YtjbodjmkfklleaaDoorETy
set_option linter.unusedVariables false
set_option linter.unusedSimpArgs false
set_option linter.unusedSectionVars false

namespace Go.Ab
open Go.Proofs
set_option linter.unusedVariables false
theorem reads_3 : Reads Tryd.prog 3 (fun x : Int => [int x]) (fun x => InR x) := (reads_int Tryd.underlying3).map id (fun _ => rfl) (fun _ h => wf_i64 h)
theorem reads_4 : Reads Tryd.prog 4 (fun x : Bool => [boo x]) (fun _ => True) := reads_bool Tryd.underlying4
def okGarmentlaw22Places (p : Garmentlaw22Places) : Prop := (InR p.from_) ∧ (InR p.to_) ∧ (True) ∧ (InR p.at_)
theorem reads_23 : Reads Tryd.prog 23 cGarmentlaw22Places okGarmentlaw22Places := (reads_struct (P := Tryd.prog) (t := 23) (N := 4) Tryd.underlying23 (by kernel_rfl) (readsF_cons (m := 1) rfl (by kernel_rfl) reads_3 (readsF_cons (m := 1) rfl (by kernel_rfl) reads_3 (readsF_cons (m := 1) rfl (by kernel_rfl) reads_4 (readsF_cons (m := 1) rfl (by kernel_rfl) reads_3 readsF_nil))))).map (fun x => (⟨x.1, x.2.1, x.2.2.1, x.2.2.2.1⟩ : Garmentlaw22Places)) (fun _ => rfl) (fun x h => ⟨h.1, h.2.1, h.2.2.1, h.2.2.2.1⟩)
end Go.Ab
