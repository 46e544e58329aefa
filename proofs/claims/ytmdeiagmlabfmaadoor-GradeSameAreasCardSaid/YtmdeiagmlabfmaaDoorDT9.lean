/- The law GradeSameAreas. -/
import Derived.Test.YtmdeiagmlabfmaaDoorDT8
import Derived.Test.YtmdeiagmlabfmaaDoorDLSameAreasW
set_option linter.unusedVariables false
set_option linter.unusedSimpArgs false
set_option linter.unusedSectionVars false

namespace Go.Ab
open Go.Proofs
set_option maxRecDepth 10000
set_option linter.unusedVariables false

theorem law_sameAreas (p : Piece) (t : Turn) (ms : List Int) (hw : WP p) (ht : InR t.quarter) : Ret Tryd.prog XS 6 [.agg [str p.name, .sl 2 (p.edges.map cEdge), int p.grain, .sl 2 (p.notches.map cNotch), .sl 2 (p.corners.map cSpot), .sl 1 (p.widths.map cI), boo p.match_], .agg [boo t.flip, int t.quarter], .sl 1 (ms.map cI)] (boo true) := by
  refine garmentlaw21_GradeSameAreas_W p t ms true ⟨_, ret_light p 40 (by omega), fun hl => ⟨fun _ => ⟨_, ret_example, rfl⟩, fun hn => ?_⟩, fun _ => ⟨_, ret_example, rfl⟩⟩
  obtain ⟨l1, l2, l3, l4, l5⟩ := light_inv hl
  refine ⟨_, _, ret_areas p ms (by omega) (by omega), turnP t p, ret_gturned p t ht (by omega) (fun e he => by have := (l5 e he).1; omega) (by omega) (by omega) (by omega), _, _, ret_areas (turnP t p) ms (by show (cornersT t p).length ≤ _; rw [cornersT_len]; omega) (by omega), fun hz => ?_, fun hz => ⟨fun h => absurd ((aErr_turn hw t).1 h) hz, fun _ => ⟨_, ret_example, rfl⟩⟩⟩
  have hz2 := (aErr_turn hw t).2 hz
  refine ⟨fun _ => ?_, fun h => absurd hz2 h⟩
  rw [aRes_turn t hz hz2]
  have hl : (aRes p ms).length = ms.length := by rw [aRes, if_pos hz, List.length_map]
  exact ⟨_, ret_ints _ _ (by omega), fun _ => ⟨fun _ => ⟨_, ret_example, rfl⟩, fun hne => absurd (by rw [hl]) hne⟩, fun hf => by simp at hf⟩
end Go.Ab
