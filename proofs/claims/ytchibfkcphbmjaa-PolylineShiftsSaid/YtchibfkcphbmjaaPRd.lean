/- A part of the proof. Conditions: those of each theorem. -/
import Derived.Test.YtchibfkcphbmjaaAbRd
import Derived.Test.YtchibfkcphbmjaaPTy
set_option linter.unusedVariables false
set_option linter.unusedSimpArgs false
set_option linter.unusedSectionVars false

namespace Go.Ab
open Go.Proofs
theorem reads_spot : Reads Try.prog 25 cSpot (fun p => InR p.x ∧ InR p.y) := by
  have h := reads_struct (P := Try.prog) (t := 25) (N := 2) Try.underlying25 (by kernel_rfl)
    (readsF_cons (m := 1) rfl (by kernel_rfl) (reads_int Try.underlying3) (readsF_cons (m := 1) rfl (by kernel_rfl) (reads_int Try.underlying3) readsF_nil))
  exact h.map (fun x => (⟨x.1, x.2.1⟩ : Spot)) (fun _ => rfl) (fun x hx => ⟨wf_i64 hx.1, wf_i64 hx.2.1⟩)
theorem reads_spots : Reads Try.prog 22 (fun l : List Spot => [.sl 2 (l.map cSpot)]) (fun l => l.length ≤ maxLen ∧ ∀ p, p ∈ l → InR p.x ∧ InR p.y) :=
  reads_slice Try.underlying22 (by kernel_rfl) (by decide) reads_spot (fun _ => rfl)
end Go.Ab
