/- A part of the proof. Conditions: those of each theorem. -/
import Derived.Test.YtmdeiagmlabfmaaGreatDoorZTy
import Derived.Test.YtmdeiagmlabfmaaGreatDoorZWall
set_option linter.unusedVariables false
set_option linter.unusedSimpArgs false
set_option linter.unusedSectionVars false

section
namespace Go.Ab
open Go.Proofs
set_option maxRecDepth 100000
set_option linter.unusedVariables false
attribute [local irreducible] todoQ
-- garmentlaw21.GradeResults
abbrev garmentlaw21_GradeResults_V (p : Piece) (multiple : Int) (r0 : Bool) : Prop := (∃ (light1 : Bool), Ret Tryz.prog XS 5 [.agg [str p.name, .sl 2 (p.edges.map cEdge), int p.grain, .sl 2 (p.notches.map cNotch), .sl 2 (p.corners.map cSpot), .sl 1 (p.widths.map cI), boo p.match_], int 60] (boo light1) ∧ ((light1 = true → (∃ (graded2a : List Edge) (graded2b : Int), Ret Tryz.prog XS 7 [.agg [str p.name, .sl 2 (p.edges.map cEdge), int p.grain, .sl 2 (p.notches.map cNotch), .sl 2 (p.corners.map cSpot), .sl 1 (p.widths.map cI), boo p.match_], int multiple] (.tup [.fr 2 (graded2a.map cEdge), int graded2b]) ∧ (∃ (graded3a : List Edge) (graded3b : Int), Ret Tryz.prog XS 8 [.agg [str p.name, .sl 2 (p.edges.map cEdge), int p.grain, .sl 2 (p.notches.map cNotch), .sl 2 (p.corners.map cSpot), .sl 1 (p.widths.map cI), boo p.match_], int multiple] (.tup [.fr 2 (graded3a.map cEdge), int graded3b]) ∧ ((graded2b = graded3b → (∃ (sameEdges4 : Bool), Ret Tryz.prog XS 9 [.sl 2 (graded2a.map cEdge), .sl 2 (graded3a.map cEdge)] (boo sameEdges4) ∧ ((sameEdges4 = true → (∃ (exampleHolds5 : Bool), Ret Tryz.prog XS 6 [] (boo exampleHolds5) ∧ r0 = exampleHolds5)) ∧ (sameEdges4 = false → r0 = false)))) ∧ (¬ (graded2b = graded3b) → r0 = false))))) ∧ (light1 = false → (∃ (exampleHolds2 : Bool), Ret Tryz.prog XS 6 [] (boo exampleHolds2) ∧ r0 = exampleHolds2))))
theorem garmentlaw21_GradeResults_W (p : Piece) (multiple : Int) (r0 : Bool) (h : garmentlaw21_GradeResults_V p multiple r0) : Ret Tryz.prog XS 3 [.agg [str p.name, .sl 2 (p.edges.map cEdge), int p.grain, .sl 2 (p.notches.map cNotch), .sl 2 (p.corners.map cSpot), .sl 1 (p.widths.map cI), boo p.match_], int multiple] (boo r0) := by
  refine fn_rule Tryz.func3 (by kernel_rfl) (by kernel_rfl) (by kernel_rfl) (by kernel_rfl) ?_
  obtain ⟨light1, c1, h⟩ := h
  have e_1 := (ocs c1)
  rcases Bool.eq_false_or_eq_true light1 with c2 | c2
  · have h := h.1 c2
    obtain ⟨graded2a, graded2b, c3, graded3a, graded3b, c4, h⟩ := h
    have e_2 := (ac (abf (not_f c2)) (ac (ocs c3) (ocs c4)))
    by_cases c5 : graded2b = graded3b
    · have h := h.1 c5
      obtain ⟨sameEdges4, c6, h⟩ := h
      have g_3 := (abt (beq_t c5))
      have e_4 := (ac g_3 (ac g_3 (ac g_3 (ac (ocl [1, 2] [(1, .row 2 (graded2a.map cEdge)), (2, .row 2 (graded3a.map cEdge))] [.own 1 0 ((graded2a.map cEdge).length), .own 2 0 ((graded3a.map cEdge).length)] (as_cons (at_row (List.length_map ..) rfl) (as_cons (at_row (List.length_map ..) rfl) as_nil)) c6) g_3))))
      rcases Bool.eq_false_or_eq_true sameEdges4 with c7 | c7
      · have h := h.1 c7
        obtain ⟨exampleHolds5, c8, h⟩ := h
        rw [h]
        exact sr (ids := []) (vs := [boo exampleHolds5]) (mem := []) (ac e_1 (ac e_2 (ac e_4 (ac (abt c7) (ac (ocs c8) (abt c7)))))) (by kernel_rfl) (by kernel_rfl) (rts_sc rfl)
      · have h := h.2 c7
        rw [h]
        exact sr (ids := []) (vs := [boo false]) (mem := []) (ac e_1 (ac e_2 (ac e_4 (ac (abf c7) (abf c7))))) (by kernel_rfl) (by kernel_rfl) (rts_sc rfl)
    · have h := h.2 c5
      have g_5 := (abf (beq_f c5))
      rw [h]
      exact sr (ids := []) (vs := [boo false]) (mem := []) (ac e_1 (ac e_2 (ac g_5 (ac g_5 (ac g_5 (ac g_5 (ac abff abff))))))) (by kernel_rfl) (by kernel_rfl) (rts_sc rfl)
  · have h := h.2 c2
    obtain ⟨exampleHolds2, c3, h⟩ := h
    rw [h]
    exact sr (ids := []) (vs := [boo exampleHolds2]) (mem := []) (ac e_1 (ac (abt (not_t c2)) (ocs c3))) (by kernel_rfl) (by kernel_rfl) (rts_sc rfl)
end Go.Ab
end
