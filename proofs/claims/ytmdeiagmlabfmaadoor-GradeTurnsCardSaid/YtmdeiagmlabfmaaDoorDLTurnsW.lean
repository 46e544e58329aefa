/- A part of the proof. Conditions: those of each theorem. -/
import Derived.Test.YtmdeiagmlabfmaaDoorDTy
import Derived.Test.YtmdeiagmlabfmaaDoorDWall
set_option linter.unusedVariables false
set_option linter.unusedSimpArgs false
set_option linter.unusedSectionVars false

namespace Go.Ab
open Go.Proofs
set_option maxRecDepth 100000
set_option linter.unusedVariables false
attribute [local irreducible] todoQ
-- garmentlaw21.GradeTurns
abbrev garmentlaw21_GradeTurns_V (p : Piece) (t1 : Turn) (multiple : Int) (r0 : Bool) : Prop := (∃ (light1 : Bool), Ret Tryd.prog XS 9 [.agg [str p.name, .sl 2 (p.edges.map cEdge), int p.grain, .sl 2 (p.notches.map cNotch), .sl 2 (p.corners.map cSpot), .sl 1 (p.widths.map cI), boo p.match_], int 40] (boo light1) ∧ ((light1 = true → (∃ (graded2a : List Edge) (graded2b : Int), Ret Tryd.prog XS 11 [.agg [str p.name, .sl 2 (p.edges.map cEdge), int p.grain, .sl 2 (p.notches.map cNotch), .sl 2 (p.corners.map cSpot), .sl 1 (p.widths.map cI), boo p.match_], int multiple] (.tup [.fr 2 (graded2a.map cEdge), int graded2b]) ∧ (∃ (turned3 : Piece), Ret Tryd.prog XS 12 [.agg [str p.name, .sl 2 (p.edges.map cEdge), int p.grain, .sl 2 (p.notches.map cNotch), .sl 2 (p.corners.map cSpot), .sl 1 (p.widths.map cI), boo p.match_], .agg [boo t1.flip, int t1.quarter]] (.agg [str turned3.name, .fr 2 (turned3.edges.map cEdge), int turned3.grain, .fr 2 (turned3.notches.map cNotch), .fr 2 (turned3.corners.map cSpot), .fr 1 (turned3.widths.map cI), boo turned3.match_]) ∧ (∃ (graded4a : List Edge) (graded4b : Int), Ret Tryd.prog XS 11 [.agg [str turned3.name, .sl 2 (turned3.edges.map cEdge), int turned3.grain, .sl 2 (turned3.notches.map cNotch), .sl 2 (turned3.corners.map cSpot), .sl 1 (turned3.widths.map cI), boo turned3.match_], int multiple] (.tup [.fr 2 (graded4a.map cEdge), int graded4b]) ∧ ((graded2b = 0 → ((graded4b = 0 → (∃ (turned5 : List Edge), Ret Tryd.prog XS 14 [.sl 2 (graded2a.map cEdge), .agg [boo t1.flip, int t1.quarter]] (.fr 2 (turned5.map cEdge)) ∧ (∃ (sameEdges6 : Bool), Ret Tryd.prog XS 13 [.sl 2 (graded4a.map cEdge), .sl 2 (turned5.map cEdge)] (boo sameEdges6) ∧ ((sameEdges6 = true → (∃ (exampleHolds7 : Bool), Ret Tryd.prog XS 10 [] (boo exampleHolds7) ∧ r0 = exampleHolds7)) ∧ (sameEdges6 = false → r0 = false))))) ∧ (¬ (graded4b = 0) → r0 = false))) ∧ (¬ (graded2b = 0) → ((graded4b = 0 → r0 = false) ∧ (¬ (graded4b = 0) → (∃ (exampleHolds5 : Bool), Ret Tryd.prog XS 10 [] (boo exampleHolds5) ∧ r0 = exampleHolds5))))))))) ∧ (light1 = false → (∃ (exampleHolds2 : Bool), Ret Tryd.prog XS 10 [] (boo exampleHolds2) ∧ r0 = exampleHolds2))))
theorem garmentlaw21_GradeTurns_W (p : Piece) (t1 : Turn) (multiple : Int) (r0 : Bool) (h : garmentlaw21_GradeTurns_V p t1 multiple r0) : Ret Tryd.prog XS 3 [.agg [str p.name, .sl 2 (p.edges.map cEdge), int p.grain, .sl 2 (p.notches.map cNotch), .sl 2 (p.corners.map cSpot), .sl 1 (p.widths.map cI), boo p.match_], .agg [boo t1.flip, int t1.quarter], int multiple] (boo r0) := by
  refine fn_rule Tryd.func3 (by kernel_rfl) (by kernel_rfl) (by kernel_rfl) (by kernel_rfl) ?_
  obtain ⟨light1, c1, h⟩ := h
  have e_1 := (ocs c1)
  rcases Bool.eq_false_or_eq_true light1 with c2 | c2
  · have h := h.1 c2
    obtain ⟨graded2a, graded2b, c3, turned3, c4, graded4a, graded4b, c5, h⟩ := h
    have e_2 := (ac (abf (not_f c2)) (ac (ocs c3) (ac (ocs c4) (ocl [3, 4, 5, 6] [(3, .row 2 (turned3.edges.map cEdge)), (4, .row 2 (turned3.notches.map cNotch)), (5, .row 2 (turned3.corners.map cSpot)), (6, .row 1 (turned3.widths.map cI))] [.agg [str turned3.name, .own 3 0 ((turned3.edges.map cEdge).length), int turned3.grain, .own 4 0 ((turned3.notches.map cNotch).length), .own 5 0 ((turned3.corners.map cSpot).length), .own 6 0 ((turned3.widths.map cI).length), boo turned3.match_], int multiple] (as_cons (at_agg (as_cons (ArgTo.same rfl) (as_cons (at_row (List.length_map ..) rfl) (as_cons (ArgTo.same rfl) (as_cons (at_row (List.length_map ..) rfl) (as_cons (at_row (List.length_map ..) rfl) (as_cons (at_row (List.length_map ..) rfl) (as_cons (ArgTo.same rfl) as_nil)))))))) (as_cons (ArgTo.same rfl) as_nil)) c5))))
    by_cases c6 : graded2b = 0
    · have h := h.1 c6
      have g_3 := (abf (bne_f c6))
      have e_4 := (ac g_3 (ac g_3 g_3))
      by_cases c7 : graded4b = 0
      · have h := h.1 c7
        obtain ⟨turned5, c8, sameEdges6, c9, h⟩ := h
        have g_5 := (abf (bne_f c7))
        have e_6 := (ac g_5 (ac (ocl [2] [(2, .row 2 (graded2a.map cEdge))] [.own 2 0 ((graded2a.map cEdge).length), .agg [boo t1.flip, int t1.quarter]] (as_cons (at_row (List.length_map ..) rfl) (as_cons (at_agg (as_cons (ArgTo.same rfl) (as_cons (ArgTo.same rfl) as_nil))) as_nil)) c8) (ocl [7, 8] [(7, .row 2 (graded4a.map cEdge)), (8, .row 2 (turned5.map cEdge))] [.own 7 0 ((graded4a.map cEdge).length), .own 8 0 ((turned5.map cEdge).length)] (as_cons (at_row (List.length_map ..) rfl) (as_cons (at_row (List.length_map ..) rfl) as_nil)) c9)))
        rcases Bool.eq_false_or_eq_true sameEdges6 with c10 | c10
        · have h := h.1 c10
          obtain ⟨exampleHolds7, c11, h⟩ := h
          rw [h]
          exact sr (ids := []) (vs := [boo exampleHolds7]) (mem := []) (ac e_1 (ac e_2 (ac e_4 (ac e_6 (ac (abt c10) (ac (ocs c11) (abt c10))))))) (by kernel_rfl) (by kernel_rfl) (rts_sc rfl)
        · have h := h.2 c10
          rw [h]
          exact sr (ids := []) (vs := [boo false]) (mem := []) (ac e_1 (ac e_2 (ac e_4 (ac e_6 (ac (abf c10) (abf c10)))))) (by kernel_rfl) (by kernel_rfl) (rts_sc rfl)
      · have h := h.2 c7
        have g_7 := (abt (bne_t c7))
        rw [h]
        exact sr (ids := []) (vs := [boo false]) (mem := []) (ac e_1 (ac e_2 (ac e_4 (ac g_7 (ac g_3 (ac g_3 (ac g_3 (ac abff abff)))))))) (by kernel_rfl) (by kernel_rfl) (rts_sc rfl)
    · have h := h.2 c6
      have g_8 := (abt (bne_t c6))
      have e_9 := (ac g_8 (ac g_8 (ac g_8 (ac abtt (ac g_8 (ac g_8 g_8))))))
      by_cases c7 : graded4b = 0
      · have h := h.1 c7
        have g_10 := (abf (bne_f c7))
        rw [h]
        exact sr (ids := []) (vs := [boo false]) (mem := []) (ac e_1 (ac e_2 (ac e_9 (ac g_10 g_10)))) (by kernel_rfl) (by kernel_rfl) (rts_sc rfl)
      · have h := h.2 c7
        obtain ⟨exampleHolds5, c8, h⟩ := h
        have g_11 := (abt (bne_t c7))
        rw [h]
        exact sr (ids := []) (vs := [boo exampleHolds5]) (mem := []) (ac e_1 (ac e_2 (ac e_9 (ac g_11 (ac (ocs c8) g_11))))) (by kernel_rfl) (by kernel_rfl) (rts_sc rfl)
  · have h := h.2 c2
    obtain ⟨exampleHolds2, c3, h⟩ := h
    rw [h]
    exact sr (ids := []) (vs := [boo exampleHolds2]) (mem := []) (ac e_1 (ac (abt (not_t c2)) (ocs c3))) (by kernel_rfl) (by kernel_rfl) (rts_sc rfl)
end Go.Ab
