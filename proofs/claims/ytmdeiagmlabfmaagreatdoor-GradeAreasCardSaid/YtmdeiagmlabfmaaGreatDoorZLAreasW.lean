/- A part of the proof. Conditions: those of each theorem. -/
import Derived.Test.YtmdeiagmlabfmaaGreatDoorZTy
import Derived.Test.YtmdeiagmlabfmaaGreatDoorZWall
set_option linter.unusedVariables false
set_option linter.unusedSimpArgs false
set_option linter.unusedSectionVars false

section
namespace Go.Ab
open Go.Proofs
set_option maxRecDepth 100000
set_option linter.unusedVariables false
attribute [local irreducible] todoQ
-- garmentlaw21.GradeAreas
abbrev garmentlaw21_GradeAreas_V (p : Piece) (multiples : List Int) (r0 : Bool) : Prop := (∃ (light1 : Bool), Ret Tryz.prog XS 5 [.agg [str p.name, .sl 2 (p.edges.map cEdge), int p.grain, .sl 2 (p.notches.map cNotch), .sl 2 (p.corners.map cSpot), .sl 1 (p.widths.map cI), boo p.match_], int 40] (boo light1) ∧ ((light1 = true → ((((multiples.length : Nat) : Int) > 6 → (∃ (exampleHolds2 : Bool), Ret Tryz.prog XS 6 [] (boo exampleHolds2) ∧ r0 = exampleHolds2)) ∧ (¬ (((multiples.length : Nat) : Int) > 6) → (∃ (areas2a : List Int) (areas2b : Int), Ret Tryz.prog XS 10 [.agg [str p.name, .sl 2 (p.edges.map cEdge), int p.grain, .sl 2 (p.notches.map cNotch), .sl 2 (p.corners.map cSpot), .sl 1 (p.widths.map cI), boo p.match_], .sl 1 (multiples.map cI)] (.tup [.fr 1 (areas2a.map cI), int areas2b]) ∧ (∃ (areas3a : List Int) (areas3b : Int), Ret Tryz.prog XS 11 [.agg [str p.name, .sl 2 (p.edges.map cEdge), int p.grain, .sl 2 (p.notches.map cNotch), .sl 2 (p.corners.map cSpot), .sl 1 (p.widths.map cI), boo p.match_], .sl 1 (multiples.map cI)] (.tup [.fr 1 (areas3a.map cI), int areas3b]) ∧ ((areas2b = areas3b → (∃ (sameInts4 : Bool), Ret Tryz.prog XS 12 [.sl 1 (areas2a.map cI), .sl 1 (areas3a.map cI)] (boo sameInts4) ∧ ((sameInts4 = true → (∃ (exampleHolds5 : Bool), Ret Tryz.prog XS 6 [] (boo exampleHolds5) ∧ r0 = exampleHolds5)) ∧ (sameInts4 = false → r0 = false)))) ∧ (¬ (areas2b = areas3b) → r0 = false))))))) ∧ (light1 = false → (∃ (exampleHolds2 : Bool), Ret Tryz.prog XS 6 [] (boo exampleHolds2) ∧ r0 = exampleHolds2))))
theorem garmentlaw21_GradeAreas_W (p : Piece) (multiples : List Int) (r0 : Bool) (h : garmentlaw21_GradeAreas_V p multiples r0) : Ret Tryz.prog XS 4 [.agg [str p.name, .sl 2 (p.edges.map cEdge), int p.grain, .sl 2 (p.notches.map cNotch), .sl 2 (p.corners.map cSpot), .sl 1 (p.widths.map cI), boo p.match_], .sl 1 (multiples.map cI)] (boo r0) := by
  refine fn_rule Tryz.func4 (by kernel_rfl) (by kernel_rfl) (by kernel_rfl) (by kernel_rfl) ?_
  obtain ⟨light1, c1, h⟩ := h
  have e_1 := (ocs c1)
  rcases Bool.eq_false_or_eq_true light1 with c2 | c2
  · have h := h.1 c2
    have g_2 := (abf (not_f c2))
    have e_3 := (ac g_2 (ac g_2 (ac (olen cI Tryz.prog 25 1 multiples (by kernel_rfl)) (ac g_2 g_2))))
    by_cases c3 : ((multiples.length : Nat) : Int) > 6
    · have h := h.1 c3
      obtain ⟨exampleHolds2, c4, h⟩ := h
      rw [h]
      exact sr (ids := []) (vs := [boo exampleHolds2]) (mem := []) (ac e_1 (ac e_3 (ac (abt (dec_t c3)) (ocs c4)))) (by kernel_rfl) (by kernel_rfl) (rts_sc rfl)
    · have h := h.2 c3
      obtain ⟨areas2a, areas2b, c4, areas3a, areas3b, c5, h⟩ := h
      have e_4 := (ac (abf (dec_f c3)) (ac (ocs c4) (ocs c5)))
      by_cases c6 : areas2b = areas3b
      · have h := h.1 c6
        obtain ⟨sameInts4, c7, h⟩ := h
        have g_5 := (abt (beq_t c6))
        have e_6 := (ac g_5 (ac g_5 (ac g_5 (ac (ocl [1, 2] [(1, .row 1 (areas2a.map cI)), (2, .row 1 (areas3a.map cI))] [.own 1 0 ((areas2a.map cI).length), .own 2 0 ((areas3a.map cI).length)] (as_cons (at_row (List.length_map ..) rfl) (as_cons (at_row (List.length_map ..) rfl) as_nil)) c7) g_5))))
        rcases Bool.eq_false_or_eq_true sameInts4 with c8 | c8
        · have h := h.1 c8
          obtain ⟨exampleHolds5, c9, h⟩ := h
          rw [h]
          exact sr (ids := []) (vs := [boo exampleHolds5]) (mem := []) (ac e_1 (ac e_3 (ac e_4 (ac e_6 (ac (abt c8) (ac (ocs c9) (abt c8))))))) (by kernel_rfl) (by kernel_rfl) (rts_sc rfl)
        · have h := h.2 c8
          rw [h]
          exact sr (ids := []) (vs := [boo false]) (mem := []) (ac e_1 (ac e_3 (ac e_4 (ac e_6 (ac (abf c8) (abf c8)))))) (by kernel_rfl) (by kernel_rfl) (rts_sc rfl)
      · have h := h.2 c6
        have g_7 := (abf (beq_f c6))
        rw [h]
        exact sr (ids := []) (vs := [boo false]) (mem := []) (ac e_1 (ac e_3 (ac e_4 (ac g_7 (ac g_7 (ac g_7 (ac g_7 (ac abff abff)))))))) (by kernel_rfl) (by kernel_rfl) (rts_sc rfl)
  · have h := h.2 c2
    obtain ⟨exampleHolds2, c3, h⟩ := h
    have g_8 := (abt (not_t c2))
    rw [h]
    exact sr (ids := []) (vs := [boo exampleHolds2]) (mem := []) (ac e_1 (ac g_8 (ac g_8 (ac g_8 (ac g_8 (ac abtt (ocs c3))))))) (by kernel_rfl) (by kernel_rfl) (rts_sc rfl)
end Go.Ab
end
