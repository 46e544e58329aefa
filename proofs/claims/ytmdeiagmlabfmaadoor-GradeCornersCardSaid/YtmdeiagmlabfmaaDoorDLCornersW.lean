/- A part of the proof. Conditions: those of each theorem. -/
import Derived.Test.YtmdeiagmlabfmaaDoorDTy
import Derived.Test.YtmdeiagmlabfmaaDoorDWall
set_option linter.unusedVariables false
set_option linter.unusedSimpArgs false
set_option linter.unusedSectionVars false

section
namespace Go.Ab
open Go.Proofs
set_option maxRecDepth 100000
set_option linter.unusedVariables false
attribute [local irreducible] todoQ
-- garmentlaw21.GradeCorners
def garmentlaw21_GradeCorners_S0 (listappend : Piece) (a : Int) (graded2a : List Edge) (v65 : Int) : AS := ⟨[(1, int a), (2, .ptr 0 0 0), (5, .own 1 0 graded2a.length), (63, .sl 2 (listappend.edges.map cEdge)), (64, int ((listappend.edges.length : Nat) : Int)), (65, int v65)], [(0, .box [str listappend.name, .sl 2 (listappend.edges.map cEdge), int listappend.grain, .sl 2 (listappend.notches.map cNotch), .sl 2 (listappend.corners.map cSpot), .sl 1 (listappend.widths.map cI), boo listappend.match_]), (1, .row 2 (graded2a.map cEdge))], 2⟩
abbrev garmentlaw21_GradeCorners_V (listappend : Piece) (a : Int) (r0 : Bool) (I0 : (List Edge) → Int → Prop) (M0 : (List Edge) → Int → Nat) : Prop := (∃ (light1 : Bool), Ret Tryd.prog XS 9 [.agg [str listappend.name, .sl 2 (listappend.edges.map cEdge), int listappend.grain, .sl 2 (listappend.notches.map cNotch), .sl 2 (listappend.corners.map cSpot), .sl 1 (listappend.widths.map cI), boo listappend.match_], int 40] (boo light1) ∧ ((light1 = true → (∃ (graded2a : List Edge) (graded2b : Int), Ret Tryd.prog XS 11 [.agg [str listappend.name, .sl 2 (listappend.edges.map cEdge), int listappend.grain, .sl 2 (listappend.notches.map cNotch), .sl 2 (listappend.corners.map cSpot), .sl 1 (listappend.widths.map cI), boo listappend.match_], int a] (.tup [.fr 2 (graded2a.map cEdge), int graded2b]) ∧ ((graded2b = 0 → (∃ (graded3a : List Edge) (graded3b : Int), Ret Tryd.prog XS 11 [.agg [str listappend.name, .sl 2 (listappend.edges.map cEdge), int listappend.grain, .sl 2 (listappend.notches.map cNotch), .sl 2 (listappend.corners.map cSpot), .sl 1 (listappend.widths.map cI), boo listappend.match_], int 0] (.tup [.fr 2 (graded3a.map cEdge), int graded3b]) ∧ ((graded3b = 0 → (∃ (sameEdges4 : Bool), Ret Tryd.prog XS 13 [.sl 2 (graded3a.map cEdge), .sl 2 (listappend.edges.map cEdge)] (boo sameEdges4) ∧ ((sameEdges4 = true → ((((graded2a.length : Nat) : Int) = ((listappend.edges.length : Nat) : Int) → ((((listappend.corners.length : Nat) : Int) = ((listappend.edges.length : Nat) : Int) → I0 graded2a 0) ∧ (¬ (((listappend.corners.length : Nat) : Int) = ((listappend.edges.length : Nat) : Int)) → r0 = false))) ∧ (¬ (((graded2a.length : Nat) : Int) = ((listappend.edges.length : Nat) : Int)) → r0 = false))) ∧ (sameEdges4 = false → r0 = false)))) ∧ (¬ (graded3b = 0) → r0 = false)))) ∧ (¬ (graded2b = 0) → ((((graded2a.length : Nat) : Int) = 0 → (∃ (exampleHolds3 : Bool), Ret Tryd.prog XS 10 [] (boo exampleHolds3) ∧ r0 = exampleHolds3)) ∧ (¬ (((graded2a.length : Nat) : Int) = 0) → r0 = false)))))) ∧ (light1 = false → (∃ (exampleHolds2 : Bool), Ret Tryd.prog XS 10 [] (boo exampleHolds2) ∧ r0 = exampleHolds2))))
abbrev garmentlaw21_GradeCorners_V0 (listappend : Piece) (a : Int) (r0 : Bool) (I0 : (List Edge) → Int → Prop) (M0 : (List Edge) → Int → Nat) (graded2a : List Edge) (v65 : Int) : Prop := ((v65 < ((listappend.edges.length : Nat) : Int) → (Idx v65 listappend.edges.length) ∧ (Idx v65 graded2a.length) ∧ (Idx v65 listappend.corners.length) ∧ (((ai graded2a v65).name = (ai listappend.edges v65).name → ((((((ai listappend.edges v65).line).length : Nat) : Int) = 0 → r0 = false) ∧ (¬ (((((ai listappend.edges v65).line).length : Nat) : Int) = 0) → ((((((ai graded2a v65).line).length : Nat) : Int) = ((((ai listappend.edges v65).line).length : Nat) : Int) → (Idx 0 ((ai graded2a v65).line).length) ∧ (Idx 0 ((ai listappend.edges v65).line).length) ∧ (InR ((ai ((ai graded2a v65).line) 0).x - (ai ((ai listappend.edges v65).line) 0).x)) ∧ (InR (a * (ai listappend.corners v65).x)) ∧ ((((ai ((ai graded2a v65).line) 0).x - (ai ((ai listappend.edges v65).line) 0).x) = (a * (ai listappend.corners v65).x) → (InR ((ai ((ai graded2a v65).line) 0).y - (ai ((ai listappend.edges v65).line) 0).y)) ∧ (InR (a * (ai listappend.corners v65).y)) ∧ ((((ai ((ai graded2a v65).line) 0).y - (ai ((ai listappend.edges v65).line) 0).y) = (a * (ai listappend.corners v65).y) → (InR (v65 + 1)) ∧ I0 graded2a (v65 + 1) ∧ M0 graded2a (v65 + 1) < M0 graded2a v65) ∧ (¬ (((ai ((ai graded2a v65).line) 0).y - (ai ((ai listappend.edges v65).line) 0).y) = (a * (ai listappend.corners v65).y)) → r0 = false))) ∧ (¬ (((ai ((ai graded2a v65).line) 0).x - (ai ((ai listappend.edges v65).line) 0).x) = (a * (ai listappend.corners v65).x)) → r0 = false))) ∧ (¬ (((((ai graded2a v65).line).length : Nat) : Int) = ((((ai listappend.edges v65).line).length : Nat) : Int)) → r0 = false))))) ∧ (¬ ((ai graded2a v65).name = (ai listappend.edges v65).name) → r0 = false))) ∧ (¬ (v65 < ((listappend.edges.length : Nat) : Int)) → (∃ (exampleHolds1 : Bool), Ret Tryd.prog XS 10 [] (boo exampleHolds1) ∧ r0 = exampleHolds1)))
theorem garmentlaw21_GradeCorners_W0 (listappend : Piece) (a : Int) (r0 : Bool) (I0 : (List Edge) → Int → Prop) (M0 : (List Edge) → Int → Nat) (h0 : ∀ (graded2a : List Edge) (v65 : Int), I0 graded2a v65 → garmentlaw21_GradeCorners_V0 listappend a r0 I0 M0 graded2a v65) (graded2a : List Edge) : ∀ (x : Int), I0 graded2a x → loopQ Tryd.prog XS Tryd.f4 0 (boo r0) [] (garmentlaw21_GradeCorners_S0 listappend a graded2a x) := by
  intro x0 hx0
  refine loop_rule (fun (x : Int) => I0 graded2a x) (fun (x : Int) => M0 graded2a x) (fun (x : Int) => garmentlaw21_GradeCorners_S0 listappend a graded2a x) x0 hx0 ?_
  intro v65 hx
  have h := h0 graded2a v65 hx
  clear hx hx0 x0
  by_cases c1 : v65 < ((listappend.edges.length : Nat) : Int)
  · have h := h.1 c1
    obtain ⟨c2, c3, c4, h⟩ := h
    have e_1 := (ac (abt (dec_t c1)) (ac (oidx cEdge c2) (ac (oown cEdge (n := graded2a.length) rfl c3) (ac (orow cEdge c3) (oidx cSpot c4)))))
    by_cases c5 : (ai graded2a v65).name = (ai listappend.edges v65).name
    · have h := h.1 c5
      have g_2 := (abf (not_f (streq_t c5)))
      have g_3 := (olen cSpot Tryd.prog 24 2 ((ai listappend.edges v65).line) (by kernel_rfl))
      have e_4 := (ac g_2 (ac g_2 (ac g_2 (ac g_3 (ac g_2 g_2)))))
      by_cases c6 : ((((ai listappend.edges v65).line).length : Nat) : Int) = 0
      · have h := h.1 c6
        have g_5 := (abt (beq_t c6))
        rw [h]
        exact sr (ids := []) (vs := [boo false]) (mem := []) (ac e_1 (ac e_4 (ac g_5 (ac g_5 (ac g_5 (ac g_5 (ac g_5 (ac g_5 (ac g_5 (ac g_5 (ac abtt (ac abtt (ac abtt (ac abtt (ac abtt (ac abtt (ac abtt (ac abtt (ac abtt (ac abtt (ac abtt (ac abtt (ac abtt (ac abtt (ac abtt (ac abtt (ac abtt (ac abtt (ac abtt (ac abtt (ac abtt (ac abtt (ac abtt (ac abtt (ac abtt (ac abtt (ac abtt (ac abtt (ac abtt (ac abtt (ac abtt (ac abtt (ac abtt (ac abtt abtt)))))))))))))))))))))))))))))))))))))))))))) (by kernel_rfl) (by kernel_rfl) (rts_sc rfl)
      · have h := h.2 c6
        have g_6 := (abf (beq_f c6))
        have e_7 := (ac g_6 (ac g_6 (ac g_6 (ac (olen cSpot Tryd.prog 24 2 ((ai graded2a v65).line) (by kernel_rfl)) (ac g_6 (ac g_6 (ac g_6 (ac g_3 (ac g_6 g_6)))))))))
        by_cases c7 : ((((ai graded2a v65).line).length : Nat) : Int) = ((((ai listappend.edges v65).line).length : Nat) : Int)
        · have h := h.1 c7
          obtain ⟨c8, c9, c10, c11, h⟩ := h
          have g_8 := (abf (bne_f c7))
          have g_9 := (oidx cSpot c8)
          have g_10 := (oidx cSpot c9)
          have e_11 := (ac g_8 (ac g_8 (ac g_8 (ac g_9 (ac g_8 (ac g_8 (ac g_8 (ac g_8 (ac g_8 (ac g_10 (ac g_8 (ac g_8 (ac g_8 (ac (osub Tryd.prog 3 (wi64 c10)) (ac g_8 (ac g_8 (ac g_8 (ac g_8 (ac (omul Tryd.prog 3 (wi64 c11)) (ac g_8 g_8))))))))))))))))))))
          by_cases c12 : ((ai ((ai graded2a v65).line) 0).x - (ai ((ai listappend.edges v65).line) 0).x) = (a * (ai listappend.corners v65).x)
          · have h := h.1 c12
            obtain ⟨c13, c14, h⟩ := h
            have g_12 := (abf (bne_f c12))
            have e_13 := (ac g_12 (ac g_12 (ac g_12 (ac g_9 (ac g_12 (ac g_12 (ac g_12 (ac g_12 (ac g_12 (ac g_10 (ac g_12 (ac g_12 (ac g_12 (ac (osub Tryd.prog 3 (wi64 c13)) (ac g_12 (ac g_12 (ac g_12 (ac g_12 (ac (omul Tryd.prog 3 (wi64 c14)) (ac g_12 g_12))))))))))))))))))))
            by_cases c15 : ((ai ((ai graded2a v65).line) 0).y - (ai ((ai listappend.edges v65).line) 0).y) = (a * (ai listappend.corners v65).y)
            · have h := h.1 c15
              obtain ⟨c16, h⟩ := h
              exact sb (ts := [1, 2, 5, 63, 64, 65]) (ids := [0, 1]) (d := 0) (s0 := ⟨[(1, int a), (2, .ptr 0 0 0), (5, .own 1 0 graded2a.length), (63, .sl 2 (listappend.edges.map cEdge)), (64, int ((listappend.edges.length : Nat) : Int)), (65, int (v65 + 1))], [(0, .box [str listappend.name, .sl 2 (listappend.edges.map cEdge), int listappend.grain, .sl 2 (listappend.notches.map cNotch), .sl 2 (listappend.corners.map cSpot), .sl 1 (listappend.widths.map cI), boo listappend.match_]), (1, .row 2 (graded2a.map cEdge))], 5⟩) (ac e_1 (ac e_4 (ac e_7 (ac e_11 (ac e_13 (ac (abf (bne_f c15)) (oadd Tryd.prog 3 (wi64 c16)))))))) (by kernel_rfl) (by kernel_rfl) rfl (v65 + 1) h.1 h.2 (Weak.anew [(0, some 0), (1, some 1)] (by rfl) (wt_cons rfl wk_sc (wt_cons rfl (wk_ptr rfl) (wt_cons rfl (wk_own rfl rfl) (wt_cons rfl wk_sl (wt_cons rfl wk_sc (wt_cons rfl wk_sc wt_nil)))))) (wm_box rfl rfl (wl_cons wk_sc (wl_cons wk_sl (wl_cons wk_sc (wl_cons wk_sl (wl_cons wk_sl (wl_cons wk_sl (wl_cons wk_sc wl_nil))))))) (wm_row rfl rfl wm_nil)))
            · have h := h.2 c15
              rw [h]
              exact sr (ids := []) (vs := [boo false]) (mem := []) (ac e_1 (ac e_4 (ac e_7 (ac e_11 (ac e_13 (abt (bne_t c15))))))) (by kernel_rfl) (by kernel_rfl) (rts_sc rfl)
          · have h := h.2 c12
            have g_14 := (abt (bne_t c12))
            rw [h]
            exact sr (ids := []) (vs := [boo false]) (mem := []) (ac e_1 (ac e_4 (ac e_7 (ac e_11 (ac g_14 (ac g_14 (ac g_14 (ac g_14 (ac g_14 (ac g_14 (ac g_14 (ac g_14 (ac g_14 (ac g_14 (ac g_14 (ac g_14 (ac g_14 (ac g_14 (ac g_14 (ac g_14 (ac g_14 abtt))))))))))))))))))))) (by kernel_rfl) (by kernel_rfl) (rts_sc rfl)
        · have h := h.2 c7
          have g_15 := (abt (bne_t c7))
          rw [h]
          exact sr (ids := []) (vs := [boo false]) (mem := []) (ac e_1 (ac e_4 (ac e_7 (ac g_15 (ac g_15 (ac g_15 (ac g_15 (ac g_15 (ac g_15 (ac g_15 (ac g_15 (ac g_15 (ac g_15 (ac g_15 (ac g_15 (ac g_15 (ac g_15 (ac g_15 (ac g_15 (ac g_15 (ac abtt (ac abtt (ac abtt (ac abtt (ac abtt (ac abtt (ac abtt (ac abtt (ac abtt (ac abtt (ac abtt (ac abtt (ac abtt (ac abtt (ac abtt (ac abtt (ac abtt abtt))))))))))))))))))))))))))))))))))))) (by kernel_rfl) (by kernel_rfl) (rts_sc rfl)
    · have h := h.2 c5
      have g_16 := (abt (not_t (streq_f c5)))
      rw [h]
      exact sr (ids := []) (vs := [boo false]) (mem := []) (ac e_1 (ac g_16 (ac g_16 (ac g_16 (ac g_16 (ac g_16 (ac abtt (ac abtt (ac abtt (ac abtt (ac abtt (ac abtt (ac abtt (ac abtt (ac abtt (ac abtt (ac abtt (ac abtt (ac abtt (ac abtt (ac abtt (ac abtt (ac abtt (ac abtt (ac abtt (ac abtt (ac abtt (ac abtt (ac abtt (ac abtt (ac abtt (ac abtt (ac abtt (ac abtt (ac abtt (ac abtt (ac abtt (ac abtt (ac abtt (ac abtt (ac abtt (ac abtt (ac abtt (ac abtt (ac abtt (ac abtt (ac abtt (ac abtt abtt)))))))))))))))))))))))))))))))))))))))))))))))) (by kernel_rfl) (by kernel_rfl) (rts_sc rfl)
  · have h := h.2 c1
    obtain ⟨exampleHolds1, c2, h⟩ := h
    rw [h]
    exact sr (ids := []) (vs := [boo exampleHolds1]) (mem := []) (ac (abf (dec_f c1)) (ocs c2)) (by kernel_rfl) (by kernel_rfl) (rts_sc rfl)
theorem garmentlaw21_GradeCorners_W (listappend : Piece) (a : Int) (r0 : Bool) (I0 : (List Edge) → Int → Prop) (M0 : (List Edge) → Int → Nat) (h : garmentlaw21_GradeCorners_V listappend a r0 I0 M0) (h0 : ∀ (graded2a : List Edge) (v65 : Int), I0 graded2a v65 → garmentlaw21_GradeCorners_V0 listappend a r0 I0 M0 graded2a v65) : Ret Tryd.prog XS 4 [.agg [str listappend.name, .sl 2 (listappend.edges.map cEdge), int listappend.grain, .sl 2 (listappend.notches.map cNotch), .sl 2 (listappend.corners.map cSpot), .sl 1 (listappend.widths.map cI), boo listappend.match_], int a] (boo r0) := by
  refine fn_rule Tryd.func4 (by kernel_rfl) (by kernel_rfl) (by kernel_rfl) (by kernel_rfl) ?_
  obtain ⟨light1, c1, h⟩ := h
  have e_17 := (ocs c1)
  rcases Bool.eq_false_or_eq_true light1 with c2 | c2
  · have h := h.1 c2
    obtain ⟨graded2a, graded2b, c3, h⟩ := h
    have e_18 := (ac (abf (not_f c2)) (ocs c3))
    by_cases c4 : graded2b = 0
    · have h := h.1 c4
      obtain ⟨graded3a, graded3b, c5, h⟩ := h
      have e_19 := (ac (abf (bne_f c4)) (ocs c5))
      by_cases c6 : graded3b = 0
      · have h := h.1 c6
        obtain ⟨sameEdges4, c7, h⟩ := h
        have g_20 := (abf (bne_f c6))
        have e_21 := (ac g_20 (ac g_20 (ac g_20 (ac g_20 (ac (ocl [2] [(2, .row 2 (graded3a.map cEdge))] [.own 2 0 ((graded3a.map cEdge).length), .sl 2 (listappend.edges.map cEdge)] (as_cons (at_row (List.length_map ..) rfl) (as_cons (ArgTo.same rfl) as_nil)) c7) (ac g_20 g_20))))))
        rcases Bool.eq_false_or_eq_true sameEdges4 with c8 | c8
        · have h := h.1 c8
          have g_22 := (abf (not_f c8))
          have g_23 := (oleno Tryd.prog 22 1 0 ((graded2a.map cEdge).length) graded2a.length (List.length_map ..) (by kernel_rfl))
          have g_24 := (olen cEdge Tryd.prog 22 2 listappend.edges (by kernel_rfl))
          have e_25 := (ac g_22 (ac g_22 (ac g_23 (ac g_22 (ac g_22 (ac g_22 (ac g_24 (ac g_22 g_22))))))))
          by_cases c9 : ((graded2a.length : Nat) : Int) = ((listappend.edges.length : Nat) : Int)
          · have h := h.1 c9
            have g_26 := (abf (bne_f c9))
            have e_27 := (ac g_26 (ac g_26 (ac g_26 (ac (olen cSpot Tryd.prog 24 2 listappend.corners (by kernel_rfl)) (ac g_26 (ac g_26 (ac g_26 (ac g_24 (ac g_26 g_26)))))))))
            by_cases c10 : ((listappend.corners.length : Nat) : Int) = ((listappend.edges.length : Nat) : Int)
            · have h := h.1 c10
              exact sl (ts := [1, 2, 5, 63, 64, 65]) (ids := [0, 1]) (d := 0) (s0 := ⟨[(1, int a), (2, .ptr 0 0 0), (5, .own 1 0 ((graded2a.map cEdge).length)), (63, .sl 2 (listappend.edges.map cEdge)), (64, int ((listappend.edges.length : Nat) : Int)), (65, int 0)], [(0, .box [str listappend.name, .sl 2 (listappend.edges.map cEdge), int listappend.grain, .sl 2 (listappend.notches.map cNotch), .sl 2 (listappend.corners.map cSpot), .sl 1 (listappend.widths.map cI), boo listappend.match_]), (1, .row 2 (graded2a.map cEdge))], 3⟩) (ac e_17 (ac e_18 (ac e_19 (ac e_21 (ac e_25 (ac e_27 (ac (abf (bne_f c10)) g_24))))))) (by kernel_rfl) (by kernel_rfl) (Weak.anew [(0, some 0), (1, some 1)] (by rfl) (wt_cons rfl wk_sc (wt_cons rfl (wk_ptr rfl) (wt_cons rfl (wk_own rfl (List.length_map ..)) (wt_cons rfl wk_sl (wt_cons rfl wk_sc (wt_cons rfl wk_sc wt_nil)))))) (wm_box rfl rfl (wl_cons wk_sc (wl_cons wk_sl (wl_cons wk_sc (wl_cons wk_sl (wl_cons wk_sl (wl_cons wk_sl (wl_cons wk_sc wl_nil))))))) (wm_row rfl rfl wm_nil))) (garmentlaw21_GradeCorners_W0 listappend a r0 I0 M0 h0 graded2a 0 h)
            · have h := h.2 c10
              rw [h]
              exact sr (ids := []) (vs := [boo false]) (mem := []) (ac e_17 (ac e_18 (ac e_19 (ac e_21 (ac e_25 (ac e_27 (abt (bne_t c10)))))))) (by kernel_rfl) (by kernel_rfl) (rts_sc rfl)
          · have h := h.2 c9
            have g_28 := (abt (bne_t c9))
            rw [h]
            exact sr (ids := []) (vs := [boo false]) (mem := []) (ac e_17 (ac e_18 (ac e_19 (ac e_21 (ac e_25 (ac g_28 (ac g_28 (ac g_28 (ac g_28 (ac g_28 (ac g_28 (ac g_28 (ac g_28 abtt))))))))))))) (by kernel_rfl) (by kernel_rfl) (rts_sc rfl)
        · have h := h.2 c8
          have g_29 := (abt (not_t c8))
          rw [h]
          exact sr (ids := []) (vs := [boo false]) (mem := []) (ac e_17 (ac e_18 (ac e_19 (ac e_21 (ac g_29 (ac g_29 (ac g_29 (ac g_29 (ac g_29 (ac g_29 (ac g_29 (ac abtt (ac abtt (ac abtt (ac abtt (ac abtt (ac abtt (ac abtt (ac abtt abtt))))))))))))))))))) (by kernel_rfl) (by kernel_rfl) (rts_sc rfl)
      · have h := h.2 c6
        have g_30 := (abt (bne_t c6))
        rw [h]
        exact sr (ids := []) (vs := [boo false]) (mem := []) (ac e_17 (ac e_18 (ac e_19 (ac g_30 (ac g_30 (ac g_30 (ac g_30 (ac g_30 (ac g_30 (ac abtt (ac abtt (ac abtt (ac abtt (ac abtt (ac abtt (ac abtt (ac abtt (ac abtt (ac abtt (ac abtt (ac abtt (ac abtt (ac abtt (ac abtt abtt)))))))))))))))))))))))) (by kernel_rfl) (by kernel_rfl) (rts_sc rfl)
    · have h := h.2 c4
      have g_31 := (oleno Tryd.prog 22 1 0 ((graded2a.map cEdge).length) graded2a.length (List.length_map ..) (by kernel_rfl))
      have e_32 := (ac (abt (bne_t c4)) g_31)
      by_cases c5 : ((graded2a.length : Nat) : Int) = 0
      · have h := h.1 c5
        obtain ⟨exampleHolds3, c6, h⟩ := h
        have g_33 := (abt (beq_t c5))
        rw [h]
        exact sr (ids := []) (vs := [boo exampleHolds3]) (mem := []) (ac e_17 (ac e_18 (ac e_32 (ac g_33 (ac (ocs c6) g_33))))) (by kernel_rfl) (by kernel_rfl) (rts_sc rfl)
      · have h := h.2 c5
        have g_34 := (abf (beq_f c5))
        rw [h]
        exact sr (ids := []) (vs := [boo false]) (mem := []) (ac e_17 (ac e_18 (ac e_32 (ac g_34 g_34)))) (by kernel_rfl) (by kernel_rfl) (rts_sc rfl)
  · have h := h.2 c2
    obtain ⟨exampleHolds2, c3, h⟩ := h
    rw [h]
    exact sr (ids := []) (vs := [boo exampleHolds2]) (mem := []) (ac e_17 (ac (abt (not_t c2)) (ocs c3))) (by kernel_rfl) (by kernel_rfl) (rts_sc rfl)
end Go.Ab
end
