/- The law GradeTurns. -/
import Derived.Test.YtmdeiagmlabfmaaDoorDT6
import Derived.Test.YtmdeiagmlabfmaaDoorDLTurnsW
set_option linter.unusedVariables false
set_option linter.unusedSimpArgs false
set_option linter.unusedSectionVars false

namespace Go.Ab
open Go.Proofs
set_option maxRecDepth 10000
set_option linter.unusedVariables false

theorem law_turns (p : Piece) (t : Turn) (m : Int) (hw : WP p) (ht : InR t.quarter) : Ret Tryd.prog XS 3 [.agg [str p.name, .sl 2 (p.edges.map cEdge), int p.grain, .sl 2 (p.notches.map cNotch), .sl 2 (p.corners.map cSpot), .sl 1 (p.widths.map cI), boo p.match_], .agg [boo t.flip, int t.quarter], int m] (boo true) := by
  refine garmentlaw21_GradeTurns_W p t m true ⟨_, ret_light p 40 (by omega), fun hl => ?_, fun _ => ⟨_, ret_example, rfl⟩⟩
  obtain ⟨l1, l2, l3, l4, l5⟩ := light_inv hl
  refine ⟨_, _, ret_graded p m (by omega), turnP t p, ret_gturned p t ht (by omega) (fun e he => by have := (l5 e he).1; omega) (by omega) (by omega) (by omega), _, _, ret_graded (turnP t p) m (by show (cornersT t p).length ≤ _; rw [cornersT_len]; omega), fun hz => ?_, fun hz => ⟨fun h => absurd ((gerr_turn_iff hw t).1 h) hz, fun _ => ⟨_, ret_example, rfl⟩⟩⟩
  have hz2 := gerr_turn t hz
  refine ⟨fun _ => ?_, fun h => absurd hz2 h⟩
  rw [gres_eq hz, gres_eq hz2, graded_turn t hz]
  have O := ocheck_zero.1 (gerr_inv hz).2.2.2.2
  have s := O.sixteen
  refine ⟨_, ret_oturned t _ ht (by omega) (fun e he => by have := (O.lines e he).forty; omega), _, ret_sameE _ _ (by rw [turnO_len]; omega) (fun e he => ?_), fun _ => ⟨_, ret_example, rfl⟩, fun hf => by simp at hf⟩
  obtain ⟨x, hx, rfl⟩ := mem_turnO.1 he
  have := (O.lines x hx).forty
  simp only [turnE, polyT_len]; omega
theorem wp_of {p : Piece} (h1 : ∀ e, e ∈ p.edges → ∀ s, s ∈ e.line → InR s.x ∧ InR s.y) (h2 : ∀ c, c ∈ p.corners → InR c.x ∧ InR c.y) : WP p := ⟨h1, h2⟩
end Go.Ab
