/- A part of the proof. Conditions: those of each theorem. -/
import Derived.Test.YtmdeiagmlabfmaaDoorDTy
import Derived.Test.YtmdeiagmlabfmaaDoorDWall
set_option linter.unusedVariables false
set_option linter.unusedSimpArgs false
set_option linter.unusedSectionVars false

namespace Go.Ab
open Go.Proofs
set_option maxRecDepth 100000
set_option linter.unusedVariables false
attribute [local irreducible] todoQ
-- garmentlaw21.GradeSameAreas
abbrev garmentlaw21_GradeSameAreas_V (p : Piece) (t1 : Turn) (multiples : List Int) (r0 : Bool) : Prop := (∃ (light1 : Bool), Ret Tryd.prog XS 9 [.agg [str p.name, .sl 2 (p.edges.map cEdge), int p.grain, .sl 2 (p.notches.map cNotch), .sl 2 (p.corners.map cSpot), .sl 1 (p.widths.map cI), boo p.match_], int 40] (boo light1) ∧ ((light1 = true → ((((multiples.length : Nat) : Int) > 4 → (∃ (exampleHolds2 : Bool), Ret Tryd.prog XS 10 [] (boo exampleHolds2) ∧ r0 = exampleHolds2)) ∧ (¬ (((multiples.length : Nat) : Int) > 4) → (∃ (areas2a : List Int) (areas2b : Int), Ret Tryd.prog XS 15 [.agg [str p.name, .sl 2 (p.edges.map cEdge), int p.grain, .sl 2 (p.notches.map cNotch), .sl 2 (p.corners.map cSpot), .sl 1 (p.widths.map cI), boo p.match_], .sl 1 (multiples.map cI)] (.tup [.fr 1 (areas2a.map cI), int areas2b]) ∧ (∃ (turned3 : Piece), Ret Tryd.prog XS 12 [.agg [str p.name, .sl 2 (p.edges.map cEdge), int p.grain, .sl 2 (p.notches.map cNotch), .sl 2 (p.corners.map cSpot), .sl 1 (p.widths.map cI), boo p.match_], .agg [boo t1.flip, int t1.quarter]] (.agg [str turned3.name, .fr 2 (turned3.edges.map cEdge), int turned3.grain, .fr 2 (turned3.notches.map cNotch), .fr 2 (turned3.corners.map cSpot), .fr 1 (turned3.widths.map cI), boo turned3.match_]) ∧ (∃ (areas4a : List Int) (areas4b : Int), Ret Tryd.prog XS 15 [.agg [str turned3.name, .sl 2 (turned3.edges.map cEdge), int turned3.grain, .sl 2 (turned3.notches.map cNotch), .sl 2 (turned3.corners.map cSpot), .sl 1 (turned3.widths.map cI), boo turned3.match_], .sl 1 (multiples.map cI)] (.tup [.fr 1 (areas4a.map cI), int areas4b]) ∧ ((areas2b = 0 → ((areas4b = 0 → (∃ (sameInts5 : Bool), Ret Tryd.prog XS 16 [.sl 1 (areas2a.map cI), .sl 1 (areas4a.map cI)] (boo sameInts5) ∧ ((sameInts5 = true → ((((areas2a.length : Nat) : Int) = ((multiples.length : Nat) : Int) → (∃ (exampleHolds6 : Bool), Ret Tryd.prog XS 10 [] (boo exampleHolds6) ∧ r0 = exampleHolds6)) ∧ (¬ (((areas2a.length : Nat) : Int) = ((multiples.length : Nat) : Int)) → r0 = false))) ∧ (sameInts5 = false → r0 = false)))) ∧ (¬ (areas4b = 0) → r0 = false))) ∧ (¬ (areas2b = 0) → ((areas4b = 0 → r0 = false) ∧ (¬ (areas4b = 0) → (∃ (exampleHolds5 : Bool), Ret Tryd.prog XS 10 [] (boo exampleHolds5) ∧ r0 = exampleHolds5))))))))))) ∧ (light1 = false → (∃ (exampleHolds2 : Bool), Ret Tryd.prog XS 10 [] (boo exampleHolds2) ∧ r0 = exampleHolds2))))
theorem garmentlaw21_GradeSameAreas_W (p : Piece) (t1 : Turn) (multiples : List Int) (r0 : Bool) (h : garmentlaw21_GradeSameAreas_V p t1 multiples r0) : Ret Tryd.prog XS 6 [.agg [str p.name, .sl 2 (p.edges.map cEdge), int p.grain, .sl 2 (p.notches.map cNotch), .sl 2 (p.corners.map cSpot), .sl 1 (p.widths.map cI), boo p.match_], .agg [boo t1.flip, int t1.quarter], .sl 1 (multiples.map cI)] (boo r0) := by
  refine fn_rule Tryd.func6 (by kernel_rfl) (by kernel_rfl) (by kernel_rfl) (by kernel_rfl) ?_
  obtain ⟨light1, c1, h⟩ := h
  have e_1 := (ocs c1)
  rcases Bool.eq_false_or_eq_true light1 with c2 | c2
  · have h := h.1 c2
    have g_2 := (abf (not_f c2))
    have g_3 := (olen cI Tryd.prog 25 1 multiples (by kernel_rfl))
    have e_4 := (ac g_2 (ac g_2 (ac g_3 (ac g_2 g_2))))
    by_cases c3 : ((multiples.length : Nat) : Int) > 4
    · have h := h.1 c3
      obtain ⟨exampleHolds2, c4, h⟩ := h
      rw [h]
      exact sr (ids := []) (vs := [boo exampleHolds2]) (mem := []) (ac e_1 (ac e_4 (ac (abt (dec_t c3)) (ocs c4)))) (by kernel_rfl) (by kernel_rfl) (rts_sc rfl)
    · have h := h.2 c3
      obtain ⟨areas2a, areas2b, c4, turned3, c5, areas4a, areas4b, c6, h⟩ := h
      have e_5 := (ac (abf (dec_f c3)) (ac (ocs c4) (ac (ocs c5) (ocl [3, 4, 5, 6] [(3, .row 2 (turned3.edges.map cEdge)), (4, .row 2 (turned3.notches.map cNotch)), (5, .row 2 (turned3.corners.map cSpot)), (6, .row 1 (turned3.widths.map cI))] [.agg [str turned3.name, .own 3 0 ((turned3.edges.map cEdge).length), int turned3.grain, .own 4 0 ((turned3.notches.map cNotch).length), .own 5 0 ((turned3.corners.map cSpot).length), .own 6 0 ((turned3.widths.map cI).length), boo turned3.match_], .sl 1 (multiples.map cI)] (as_cons (at_agg (as_cons (ArgTo.same rfl) (as_cons (at_row (List.length_map ..) rfl) (as_cons (ArgTo.same rfl) (as_cons (at_row (List.length_map ..) rfl) (as_cons (at_row (List.length_map ..) rfl) (as_cons (at_row (List.length_map ..) rfl) (as_cons (ArgTo.same rfl) as_nil)))))))) (as_cons (ArgTo.same rfl) as_nil)) c6))))
      by_cases c7 : areas2b = 0
      · have h := h.1 c7
        have g_6 := (abf (bne_f c7))
        have e_7 := (ac g_6 (ac g_6 g_6))
        by_cases c8 : areas4b = 0
        · have h := h.1 c8
          obtain ⟨sameInts5, c9, h⟩ := h
          have g_8 := (abf (bne_f c8))
          have e_9 := (ac g_8 (ocl [2, 7] [(2, .row 1 (areas2a.map cI)), (7, .row 1 (areas4a.map cI))] [.own 2 0 ((areas2a.map cI).length), .own 7 0 ((areas4a.map cI).length)] (as_cons (at_row (List.length_map ..) rfl) (as_cons (at_row (List.length_map ..) rfl) as_nil)) c9))
          rcases Bool.eq_false_or_eq_true sameInts5 with c10 | c10
          · have h := h.1 c10
            have e_10 := (ac (abt c10) (ac (abt c10) (ac (oleno Tryd.prog 25 2 0 ((areas2a.map cI).length) areas2a.length (List.length_map ..) (by kernel_rfl)) (ac (abt c10) (ac (abt c10) (ac g_3 (ac (abt c10) (abt c10))))))))
            by_cases c11 : ((areas2a.length : Nat) : Int) = ((multiples.length : Nat) : Int)
            · have h := h.1 c11
              obtain ⟨exampleHolds6, c12, h⟩ := h
              have g_11 := (abt (beq_t c11))
              rw [h]
              exact sr (ids := []) (vs := [boo exampleHolds6]) (mem := []) (ac e_1 (ac e_4 (ac e_5 (ac e_7 (ac e_9 (ac e_10 (ac g_11 (ac (ocs c12) g_11)))))))) (by kernel_rfl) (by kernel_rfl) (rts_sc rfl)
            · have h := h.2 c11
              have g_12 := (abf (beq_f c11))
              rw [h]
              exact sr (ids := []) (vs := [boo false]) (mem := []) (ac e_1 (ac e_4 (ac e_5 (ac e_7 (ac e_9 (ac e_10 (ac g_12 g_12))))))) (by kernel_rfl) (by kernel_rfl) (rts_sc rfl)
          · have h := h.2 c10
            rw [h]
            exact sr (ids := []) (vs := [boo false]) (mem := []) (ac e_1 (ac e_4 (ac e_5 (ac e_7 (ac e_9 (ac (abf c10) (ac (abf c10) (ac (abf c10) (ac (abf c10) (ac (abf c10) (ac (abf c10) (ac abff abff)))))))))))) (by kernel_rfl) (by kernel_rfl) (rts_sc rfl)
        · have h := h.2 c8
          have g_13 := (abt (bne_t c8))
          rw [h]
          exact sr (ids := []) (vs := [boo false]) (mem := []) (ac e_1 (ac e_4 (ac e_5 (ac e_7 (ac g_13 (ac g_6 (ac g_6 (ac g_6 (ac abff abff))))))))) (by kernel_rfl) (by kernel_rfl) (rts_sc rfl)
      · have h := h.2 c7
        have g_14 := (abt (bne_t c7))
        have e_15 := (ac g_14 (ac g_14 (ac g_14 (ac abtt (ac g_14 (ac g_14 g_14))))))
        by_cases c8 : areas4b = 0
        · have h := h.1 c8
          have g_16 := (abf (bne_f c8))
          rw [h]
          exact sr (ids := []) (vs := [boo false]) (mem := []) (ac e_1 (ac e_4 (ac e_5 (ac e_15 (ac g_16 g_16))))) (by kernel_rfl) (by kernel_rfl) (rts_sc rfl)
        · have h := h.2 c8
          obtain ⟨exampleHolds5, c9, h⟩ := h
          have g_17 := (abt (bne_t c8))
          rw [h]
          exact sr (ids := []) (vs := [boo exampleHolds5]) (mem := []) (ac e_1 (ac e_4 (ac e_5 (ac e_15 (ac g_17 (ac (ocs c9) g_17)))))) (by kernel_rfl) (by kernel_rfl) (rts_sc rfl)
  · have h := h.2 c2
    obtain ⟨exampleHolds2, c3, h⟩ := h
    have g_18 := (abt (not_t c2))
    rw [h]
    exact sr (ids := []) (vs := [boo exampleHolds2]) (mem := []) (ac e_1 (ac g_18 (ac g_18 (ac g_18 (ac g_18 (ac abtt (ocs c3))))))) (by kernel_rfl) (by kernel_rfl) (rts_sc rfl)
end Go.Ab
