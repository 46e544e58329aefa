/- A part of the proof. Conditions: those of each theorem. -/
import Derived.Test.YtmdeiagmlabfmaaDoorDTy
import Derived.Test.YtmdeiagmlabfmaaDoorDWall
set_option linter.unusedVariables false
set_option linter.unusedSimpArgs false
set_option linter.unusedSectionVars false

namespace Go.Ab
open Go.Proofs
set_option maxRecDepth 100000
set_option linter.unusedVariables false
attribute [local irreducible] todoQ
-- garmentlaw21.GradeComposes
def garmentlaw21_GradeComposes_S0 (listappend : Piece) (a : Turn) (a2 : Turn) (v43 : Int) : AS := ⟨[(3, .ptr 0 0 0), (4, .ptr 1 0 0), (5, .ptr 2 0 0), (41, .sl 2 (listappend.notches.map cNotch)), (42, int ((listappend.notches.length : Nat) : Int)), (43, int v43)], [(0, .box [str listappend.name, .sl 2 (listappend.edges.map cEdge), int listappend.grain, .sl 2 (listappend.notches.map cNotch), .sl 2 (listappend.corners.map cSpot), .sl 1 (listappend.widths.map cI), boo listappend.match_]), (1, .box [boo a.flip, int a.quarter]), (2, .box [boo a2.flip, int a2.quarter])], 3⟩
abbrev garmentlaw21_GradeComposes_V (listappend : Piece) (a : Turn) (a2 : Turn) (r0 : Bool) (I0 : Int → Prop) (M0 : Int → Nat) : Prop := (∃ (light1 : Bool), Ret Tryd.prog XS 9 [.agg [str listappend.name, .sl 2 (listappend.edges.map cEdge), int listappend.grain, .sl 2 (listappend.notches.map cNotch), .sl 2 (listappend.corners.map cSpot), .sl 1 (listappend.widths.map cI), boo listappend.match_], int 40] (boo light1) ∧ ((light1 = true → ((((listappend.corners.length : Nat) : Int) = ((listappend.edges.length : Nat) : Int) → ((((listappend.widths.length : Nat) : Int) = ((listappend.edges.length : Nat) : Int) → (∃ (check2 : Int), Ret Tryd.prog XS 19 [.sl 2 (listappend.edges.map cEdge)] (int check2) ∧ ((check2 = 0 → I0 0) ∧ (¬ (check2 = 0) → (∃ (exampleHolds3 : Bool), Ret Tryd.prog XS 10 [] (boo exampleHolds3) ∧ r0 = exampleHolds3))))) ∧ (¬ (((listappend.widths.length : Nat) : Int) = ((listappend.edges.length : Nat) : Int)) → (∃ (exampleHolds2 : Bool), Ret Tryd.prog XS 10 [] (boo exampleHolds2) ∧ r0 = exampleHolds2)))) ∧ (¬ (((listappend.corners.length : Nat) : Int) = ((listappend.edges.length : Nat) : Int)) → (∃ (exampleHolds2 : Bool), Ret Tryd.prog XS 10 [] (boo exampleHolds2) ∧ r0 = exampleHolds2)))) ∧ (light1 = false → (∃ (exampleHolds2 : Bool), Ret Tryd.prog XS 10 [] (boo exampleHolds2) ∧ r0 = exampleHolds2))))
abbrev garmentlaw21_GradeComposes_V0 (listappend : Piece) (a : Turn) (a2 : Turn) (r0 : Bool) (I0 : Int → Prop) (M0 : Int → Nat) (v43 : Int) : Prop := ((v43 < ((listappend.notches.length : Nat) : Int) → (Idx v43 listappend.notches.length) ∧ (((ai listappend.notches v43).edge < 0 → (∃ (exampleHolds1 : Bool), Ret Tryd.prog XS 10 [] (boo exampleHolds1) ∧ r0 = exampleHolds1)) ∧ (¬ ((ai listappend.notches v43).edge < 0) → (((ai listappend.notches v43).edge ≥ ((listappend.edges.length : Nat) : Int) → (∃ (exampleHolds1 : Bool), Ret Tryd.prog XS 10 [] (boo exampleHolds1) ∧ r0 = exampleHolds1)) ∧ (¬ ((ai listappend.notches v43).edge ≥ ((listappend.edges.length : Nat) : Int)) → (Idx ((ai listappend.notches v43).edge) listappend.edges.length) ∧ (∃ (length1a : Int) (length1b : Int), Ret Tryd.prog XS 20 [.sl 2 (((ai listappend.edges ((ai listappend.notches v43).edge)).line).map cSpot)] (.tup [int length1a, int length1b]) ∧ ((length1b = 0 → (((ai listappend.notches v43).at_ < 0 → (∃ (exampleHolds2 : Bool), Ret Tryd.prog XS 10 [] (boo exampleHolds2) ∧ r0 = exampleHolds2)) ∧ (¬ ((ai listappend.notches v43).at_ < 0) → (((ai listappend.notches v43).at_ > length1a → (∃ (exampleHolds2 : Bool), Ret Tryd.prog XS 10 [] (boo exampleHolds2) ∧ r0 = exampleHolds2)) ∧ (¬ ((ai listappend.notches v43).at_ > length1a) → (InR (v43 + 1)) ∧ I0 (v43 + 1) ∧ M0 (v43 + 1) < M0 v43))))) ∧ (¬ (length1b = 0) → r0 = false)))))))) ∧ (¬ (v43 < ((listappend.notches.length : Nat) : Int)) → (∃ (turned1 : Piece), Ret Tryd.prog XS 12 [.agg [str listappend.name, .sl 2 (listappend.edges.map cEdge), int listappend.grain, .sl 2 (listappend.notches.map cNotch), .sl 2 (listappend.corners.map cSpot), .sl 1 (listappend.widths.map cI), boo listappend.match_], .agg [boo a.flip, int a.quarter]] (.agg [str turned1.name, .fr 2 (turned1.edges.map cEdge), int turned1.grain, .fr 2 (turned1.notches.map cNotch), .fr 2 (turned1.corners.map cSpot), .fr 1 (turned1.widths.map cI), boo turned1.match_]) ∧ (∃ (turned2 : Piece), Ret Tryd.prog XS 12 [.agg [str turned1.name, .sl 2 (turned1.edges.map cEdge), int turned1.grain, .sl 2 (turned1.notches.map cNotch), .sl 2 (turned1.corners.map cSpot), .sl 1 (turned1.widths.map cI), boo turned1.match_], .agg [boo a2.flip, int a2.quarter]] (.agg [str turned2.name, .fr 2 (turned2.edges.map cEdge), int turned2.grain, .fr 2 (turned2.notches.map cNotch), .fr 2 (turned2.corners.map cSpot), .fr 1 (turned2.widths.map cI), boo turned2.match_]) ∧ (∃ (compose3 : Turn), Ret Tryd.prog XS 22 [.agg [boo a.flip, int a.quarter], .agg [boo a2.flip, int a2.quarter]] (.agg [boo compose3.flip, int compose3.quarter]) ∧ (∃ (turned4 : Piece), Ret Tryd.prog XS 12 [.agg [str listappend.name, .sl 2 (listappend.edges.map cEdge), int listappend.grain, .sl 2 (listappend.notches.map cNotch), .sl 2 (listappend.corners.map cSpot), .sl 1 (listappend.widths.map cI), boo listappend.match_], .agg [boo compose3.flip, int compose3.quarter]] (.agg [str turned4.name, .fr 2 (turned4.edges.map cEdge), int turned4.grain, .fr 2 (turned4.notches.map cNotch), .fr 2 (turned4.corners.map cSpot), .fr 1 (turned4.widths.map cI), boo turned4.match_]) ∧ (∃ (same5 : Bool), Ret Tryd.prog XS 21 [.agg [str turned2.name, .sl 2 (turned2.edges.map cEdge), int turned2.grain, .sl 2 (turned2.notches.map cNotch), .sl 2 (turned2.corners.map cSpot), .sl 1 (turned2.widths.map cI), boo turned2.match_], .agg [str turned4.name, .sl 2 (turned4.edges.map cEdge), int turned4.grain, .sl 2 (turned4.notches.map cNotch), .sl 2 (turned4.corners.map cSpot), .sl 1 (turned4.widths.map cI), boo turned4.match_]] (boo same5) ∧ ((same5 = true → (∃ (inverse6 : Turn), Ret Tryd.prog XS 23 [.agg [boo a.flip, int a.quarter]] (.agg [boo inverse6.flip, int inverse6.quarter]) ∧ (∃ (turned7 : Piece), Ret Tryd.prog XS 12 [.agg [str turned1.name, .sl 2 (turned1.edges.map cEdge), int turned1.grain, .sl 2 (turned1.notches.map cNotch), .sl 2 (turned1.corners.map cSpot), .sl 1 (turned1.widths.map cI), boo turned1.match_], .agg [boo inverse6.flip, int inverse6.quarter]] (.agg [str turned7.name, .fr 2 (turned7.edges.map cEdge), int turned7.grain, .fr 2 (turned7.notches.map cNotch), .fr 2 (turned7.corners.map cSpot), .fr 1 (turned7.widths.map cI), boo turned7.match_]) ∧ (∃ (same8 : Bool), Ret Tryd.prog XS 21 [.agg [str turned7.name, .sl 2 (turned7.edges.map cEdge), int turned7.grain, .sl 2 (turned7.notches.map cNotch), .sl 2 (turned7.corners.map cSpot), .sl 1 (turned7.widths.map cI), boo turned7.match_], .agg [str listappend.name, .sl 2 (listappend.edges.map cEdge), int listappend.grain, .sl 2 (listappend.notches.map cNotch), .sl 2 (listappend.corners.map cSpot), .sl 1 (listappend.widths.map cI), boo listappend.match_]] (boo same8) ∧ ((same8 = true → (∃ (exampleHolds9 : Bool), Ret Tryd.prog XS 10 [] (boo exampleHolds9) ∧ r0 = exampleHolds9)) ∧ (same8 = false → r0 = false)))))) ∧ (same5 = false → r0 = false)))))))))
theorem garmentlaw21_GradeComposes_W0 (listappend : Piece) (a : Turn) (a2 : Turn) (r0 : Bool) (I0 : Int → Prop) (M0 : Int → Nat) (h0 : ∀ (v43 : Int), I0 v43 → garmentlaw21_GradeComposes_V0 listappend a a2 r0 I0 M0 v43) : ∀ (x : Int), I0 x → loopQ Tryd.prog XS Tryd.f8 0 (boo r0) [] (garmentlaw21_GradeComposes_S0 listappend a a2 x) := by
  intro x0 hx0
  refine loop_rule (fun (x : Int) => I0 x) (fun (x : Int) => M0 x) (fun (x : Int) => garmentlaw21_GradeComposes_S0 listappend a a2 x) x0 hx0 ?_
  intro v43 hx
  have h := h0 v43 hx
  clear hx hx0 x0
  by_cases c1 : v43 < ((listappend.notches.length : Nat) : Int)
  · have h := h.1 c1
    obtain ⟨c2, h⟩ := h
    have e_1 := (ac (abt (dec_t c1)) (oidx cNotch c2))
    by_cases c3 : (ai listappend.notches v43).edge < 0
    · have h := h.1 c3
      obtain ⟨exampleHolds1, c4, h⟩ := h
      have g_2 := (abt (dec_t c3))
      rw [h]
      exact sr (ids := []) (vs := [boo exampleHolds1]) (mem := []) (ac e_1 (ac g_2 (ac g_2 (ac g_2 (ac g_2 (ac g_2 (ac g_2 (ac g_2 (ac abtt (ocs c4)))))))))) (by kernel_rfl) (by kernel_rfl) (rts_sc rfl)
    · have h := h.2 c3
      have g_3 := (abf (dec_f c3))
      have g_4 := (olen cEdge Tryd.prog 22 2 listappend.edges (by kernel_rfl))
      have e_5 := (ac g_3 (ac g_3 (ac g_3 (ac g_3 (ac g_3 (ac g_4 (ac g_3 g_3)))))))
      by_cases c4 : (ai listappend.notches v43).edge ≥ ((listappend.edges.length : Nat) : Int)
      · have h := h.1 c4
        obtain ⟨exampleHolds1, c5, h⟩ := h
        rw [h]
        exact sr (ids := []) (vs := [boo exampleHolds1]) (mem := []) (ac e_1 (ac e_5 (ac (abt (dec_t c4)) (ocs c5)))) (by kernel_rfl) (by kernel_rfl) (rts_sc rfl)
      · have h := h.2 c4
        obtain ⟨c5, length1a, length1b, c6, h⟩ := h
        have e_6 := (ac (abf (dec_f c4)) (ac (oidx cEdge c5) (ocs c6)))
        by_cases c7 : length1b = 0
        · have h := h.1 c7
          have g_7 := (abf (bne_f c7))
          have e_8 := (ac g_7 (ac g_7 (ac g_7 g_7)))
          by_cases c8 : (ai listappend.notches v43).at_ < 0
          · have h := h.1 c8
            obtain ⟨exampleHolds2, c9, h⟩ := h
            have g_9 := (abt (dec_t c8))
            have g_10 := (abt (beq_t c7))
            rw [h]
            exact sr (ids := []) (vs := [boo exampleHolds2]) (mem := []) (ac e_1 (ac e_5 (ac e_6 (ac e_8 (ac g_9 (ac g_9 (ac g_9 (ac g_9 (ac g_9 (ac abtt (ac g_10 (ac (ocs c9) g_10)))))))))))) (by kernel_rfl) (by kernel_rfl) (rts_sc rfl)
          · have h := h.2 c8
            have g_11 := (abf (dec_f c8))
            have e_12 := (ac g_11 (ac g_11 (ac g_11 (ac g_11 g_11))))
            by_cases c9 : (ai listappend.notches v43).at_ > length1a
            · have h := h.1 c9
              obtain ⟨exampleHolds2, c10, h⟩ := h
              have g_13 := (abt (beq_t c7))
              rw [h]
              exact sr (ids := []) (vs := [boo exampleHolds2]) (mem := []) (ac e_1 (ac e_5 (ac e_6 (ac e_8 (ac e_12 (ac (abt (dec_t c9)) (ac g_13 (ac (ocs c10) g_13)))))))) (by kernel_rfl) (by kernel_rfl) (rts_sc rfl)
            · have h := h.2 c9
              obtain ⟨c10, h⟩ := h
              exact sb (ts := [3, 4, 5, 41, 42, 43]) (ids := [0, 1, 2]) (d := 0) (s0 := ⟨[(3, .ptr 0 0 0), (4, .ptr 1 0 0), (5, .ptr 2 0 0), (41, .sl 2 (listappend.notches.map cNotch)), (42, int ((listappend.notches.length : Nat) : Int)), (43, int (v43 + 1))], [(0, .box [str listappend.name, .sl 2 (listappend.edges.map cEdge), int listappend.grain, .sl 2 (listappend.notches.map cNotch), .sl 2 (listappend.corners.map cSpot), .sl 1 (listappend.widths.map cI), boo listappend.match_]), (1, .box [boo a.flip, int a.quarter]), (2, .box [boo a2.flip, int a2.quarter])], 4⟩) (ac e_1 (ac e_5 (ac e_6 (ac e_8 (ac e_12 (ac (abf (dec_f c9)) (oadd Tryd.prog 3 (wi64 c10)))))))) (by kernel_rfl) (by kernel_rfl) rfl (v43 + 1) h.1 h.2 (Weak.anew [(0, some 0), (1, some 1), (2, some 2)] (by rfl) (wt_cons rfl (wk_ptr rfl) (wt_cons rfl (wk_ptr rfl) (wt_cons rfl (wk_ptr rfl) (wt_cons rfl wk_sl (wt_cons rfl wk_sc (wt_cons rfl wk_sc wt_nil)))))) (wm_box rfl rfl (wl_cons wk_sc (wl_cons wk_sl (wl_cons wk_sc (wl_cons wk_sl (wl_cons wk_sl (wl_cons wk_sl (wl_cons wk_sc wl_nil))))))) (wm_box rfl rfl (wl_cons wk_sc (wl_cons wk_sc wl_nil)) (wm_box rfl rfl (wl_cons wk_sc (wl_cons wk_sc wl_nil)) wm_nil))))
        · have h := h.2 c7
          have g_14 := (abt (bne_t c7))
          have g_15 := (abf (beq_f c7))
          rw [h]
          exact sr (ids := []) (vs := [boo false]) (mem := []) (ac e_1 (ac e_5 (ac e_6 (ac g_14 (ac g_14 (ac g_14 (ac g_14 (ac abtt (ac abtt (ac abtt (ac abtt (ac abtt (ac abtt (ac g_15 g_15)))))))))))))) (by kernel_rfl) (by kernel_rfl) (rts_sc rfl)
  · have h := h.2 c1
    obtain ⟨turned1, c2, turned2, c3, compose3, c4, turned4, c5, same5, c6, h⟩ := h
    have e_16 := (ac (abf (dec_f c1)) (ac (ocs c2) (ac (ocl [3, 4, 5, 6] [(3, .row 2 (turned1.edges.map cEdge)), (4, .row 2 (turned1.notches.map cNotch)), (5, .row 2 (turned1.corners.map cSpot)), (6, .row 1 (turned1.widths.map cI))] [.agg [str turned1.name, .own 3 0 ((turned1.edges.map cEdge).length), int turned1.grain, .own 4 0 ((turned1.notches.map cNotch).length), .own 5 0 ((turned1.corners.map cSpot).length), .own 6 0 ((turned1.widths.map cI).length), boo turned1.match_], .agg [boo a2.flip, int a2.quarter]] (as_cons (at_agg (as_cons (ArgTo.same rfl) (as_cons (at_row (List.length_map ..) rfl) (as_cons (ArgTo.same rfl) (as_cons (at_row (List.length_map ..) rfl) (as_cons (at_row (List.length_map ..) rfl) (as_cons (at_row (List.length_map ..) rfl) (as_cons (ArgTo.same rfl) as_nil)))))))) (as_cons (at_agg (as_cons (ArgTo.same rfl) (as_cons (ArgTo.same rfl) as_nil))) as_nil)) c3) (ac (ocs c4) (ac (ocs c5) (ocl [8, 9, 10, 11, 12, 13, 14, 15] [(8, .row 2 (turned2.edges.map cEdge)), (9, .row 2 (turned2.notches.map cNotch)), (10, .row 2 (turned2.corners.map cSpot)), (11, .row 1 (turned2.widths.map cI)), (12, .row 2 (turned4.edges.map cEdge)), (13, .row 2 (turned4.notches.map cNotch)), (14, .row 2 (turned4.corners.map cSpot)), (15, .row 1 (turned4.widths.map cI))] [.agg [str turned2.name, .own 8 0 ((turned2.edges.map cEdge).length), int turned2.grain, .own 9 0 ((turned2.notches.map cNotch).length), .own 10 0 ((turned2.corners.map cSpot).length), .own 11 0 ((turned2.widths.map cI).length), boo turned2.match_], .agg [str turned4.name, .own 12 0 ((turned4.edges.map cEdge).length), int turned4.grain, .own 13 0 ((turned4.notches.map cNotch).length), .own 14 0 ((turned4.corners.map cSpot).length), .own 15 0 ((turned4.widths.map cI).length), boo turned4.match_]] (as_cons (at_agg (as_cons (ArgTo.same rfl) (as_cons (at_row (List.length_map ..) rfl) (as_cons (ArgTo.same rfl) (as_cons (at_row (List.length_map ..) rfl) (as_cons (at_row (List.length_map ..) rfl) (as_cons (at_row (List.length_map ..) rfl) (as_cons (ArgTo.same rfl) as_nil)))))))) (as_cons (at_agg (as_cons (ArgTo.same rfl) (as_cons (at_row (List.length_map ..) rfl) (as_cons (ArgTo.same rfl) (as_cons (at_row (List.length_map ..) rfl) (as_cons (at_row (List.length_map ..) rfl) (as_cons (at_row (List.length_map ..) rfl) (as_cons (ArgTo.same rfl) as_nil)))))))) as_nil)) c6))))))
    rcases Bool.eq_false_or_eq_true same5 with c7 | c7
    · have h := h.1 c7
      obtain ⟨inverse6, c8, turned7, c9, same8, c10, h⟩ := h
      have e_17 := (ac (abt c7) (ac (abt c7) (ac (abt c7) (ac (ocs c8) (ac (abt c7) (ac (ocl [3, 4, 5, 6] [(3, .frz 2 (turned1.edges.map cEdge)), (4, .frz 2 (turned1.notches.map cNotch)), (5, .frz 2 (turned1.corners.map cSpot)), (6, .frz 1 (turned1.widths.map cI))] [.agg [str turned1.name, .own 3 0 ((turned1.edges.map cEdge).length), int turned1.grain, .own 4 0 ((turned1.notches.map cNotch).length), .own 5 0 ((turned1.corners.map cSpot).length), .own 6 0 ((turned1.widths.map cI).length), boo turned1.match_], .agg [boo inverse6.flip, int inverse6.quarter]] (as_cons (at_agg (as_cons (ArgTo.same rfl) (as_cons (at_frz (List.length_map ..) rfl) (as_cons (ArgTo.same rfl) (as_cons (at_frz (List.length_map ..) rfl) (as_cons (at_frz (List.length_map ..) rfl) (as_cons (at_frz (List.length_map ..) rfl) (as_cons (ArgTo.same rfl) as_nil)))))))) (as_cons (at_agg (as_cons (ArgTo.same rfl) (as_cons (ArgTo.same rfl) as_nil))) as_nil)) c9) (ac (abt c7) (ac (abt c7) (ac (ocl [16, 17, 18, 19] [(16, .row 2 (turned7.edges.map cEdge)), (17, .row 2 (turned7.notches.map cNotch)), (18, .row 2 (turned7.corners.map cSpot)), (19, .row 1 (turned7.widths.map cI))] [.agg [str turned7.name, .own 16 0 ((turned7.edges.map cEdge).length), int turned7.grain, .own 17 0 ((turned7.notches.map cNotch).length), .own 18 0 ((turned7.corners.map cSpot).length), .own 19 0 ((turned7.widths.map cI).length), boo turned7.match_], .agg [str listappend.name, .sl 2 (listappend.edges.map cEdge), int listappend.grain, .sl 2 (listappend.notches.map cNotch), .sl 2 (listappend.corners.map cSpot), .sl 1 (listappend.widths.map cI), boo listappend.match_]] (as_cons (at_agg (as_cons (ArgTo.same rfl) (as_cons (at_row (List.length_map ..) rfl) (as_cons (ArgTo.same rfl) (as_cons (at_row (List.length_map ..) rfl) (as_cons (at_row (List.length_map ..) rfl) (as_cons (at_row (List.length_map ..) rfl) (as_cons (ArgTo.same rfl) as_nil)))))))) (as_cons (at_agg (as_cons (ArgTo.same rfl) (as_cons (ArgTo.same rfl) (as_cons (ArgTo.same rfl) (as_cons (ArgTo.same rfl) (as_cons (ArgTo.same rfl) (as_cons (ArgTo.same rfl) (as_cons (ArgTo.same rfl) as_nil)))))))) as_nil)) c10) (abt c7))))))))))
      rcases Bool.eq_false_or_eq_true same8 with c11 | c11
      · have h := h.1 c11
        obtain ⟨exampleHolds9, c12, h⟩ := h
        rw [h]
        exact sr (ids := []) (vs := [boo exampleHolds9]) (mem := []) (ac e_16 (ac e_17 (ac (abt c11) (ac (ocs c12) (abt c11))))) (by kernel_rfl) (by kernel_rfl) (rts_sc rfl)
      · have h := h.2 c11
        rw [h]
        exact sr (ids := []) (vs := [boo false]) (mem := []) (ac e_16 (ac e_17 (ac (abf c11) (abf c11)))) (by kernel_rfl) (by kernel_rfl) (rts_sc rfl)
    · have h := h.2 c7
      rw [h]
      exact sr (ids := []) (vs := [boo false]) (mem := []) (ac e_16 (ac (abf c7) (ac (abf c7) (ac (abf c7) (ac (abf c7) (ac (abf c7) (ac (abf c7) (ac (abf c7) (ac abff abff))))))))) (by kernel_rfl) (by kernel_rfl) (rts_sc rfl)
theorem garmentlaw21_GradeComposes_W (listappend : Piece) (a : Turn) (a2 : Turn) (r0 : Bool) (I0 : Int → Prop) (M0 : Int → Nat) (h : garmentlaw21_GradeComposes_V listappend a a2 r0 I0 M0) (h0 : ∀ (v43 : Int), I0 v43 → garmentlaw21_GradeComposes_V0 listappend a a2 r0 I0 M0 v43) : Ret Tryd.prog XS 8 [.agg [str listappend.name, .sl 2 (listappend.edges.map cEdge), int listappend.grain, .sl 2 (listappend.notches.map cNotch), .sl 2 (listappend.corners.map cSpot), .sl 1 (listappend.widths.map cI), boo listappend.match_], .agg [boo a.flip, int a.quarter], .agg [boo a2.flip, int a2.quarter]] (boo r0) := by
  refine fn_rule Tryd.func8 (by kernel_rfl) (by kernel_rfl) (by kernel_rfl) (by kernel_rfl) ?_
  obtain ⟨light1, c1, h⟩ := h
  have e_18 := (ocs c1)
  rcases Bool.eq_false_or_eq_true light1 with c2 | c2
  · have h := h.1 c2
    have g_19 := (abf (not_f c2))
    have g_20 := (olen cEdge Tryd.prog 22 2 listappend.edges (by kernel_rfl))
    have e_21 := (ac g_19 (ac g_19 (ac g_19 (ac (olen cSpot Tryd.prog 24 2 listappend.corners (by kernel_rfl)) (ac g_19 (ac g_19 (ac g_19 (ac g_20 (ac g_19 g_19)))))))))
    by_cases c3 : ((listappend.corners.length : Nat) : Int) = ((listappend.edges.length : Nat) : Int)
    · have h := h.1 c3
      have g_22 := (abf (bne_f c3))
      have e_23 := (ac g_22 (ac g_22 (ac g_22 (ac (olen cI Tryd.prog 25 1 listappend.widths (by kernel_rfl)) (ac g_22 (ac g_22 (ac g_22 (ac g_20 (ac g_22 g_22)))))))))
      by_cases c4 : ((listappend.widths.length : Nat) : Int) = ((listappend.edges.length : Nat) : Int)
      · have h := h.1 c4
        obtain ⟨check2, c5, h⟩ := h
        have g_24 := (abf (bne_f c4))
        have e_25 := (ac g_24 (ac g_24 (ac g_24 (ac (ocs c5) (ac g_24 g_24)))))
        by_cases c6 : check2 = 0
        · have h := h.1 c6
          exact sl (ts := [3, 4, 5, 41, 42, 43]) (ids := [0, 1, 2]) (d := 0) (s0 := ⟨[(3, .ptr 0 0 0), (4, .ptr 1 0 0), (5, .ptr 2 0 0), (41, .sl 2 (listappend.notches.map cNotch)), (42, int ((listappend.notches.length : Nat) : Int)), (43, int 0)], [(0, .box [str listappend.name, .sl 2 (listappend.edges.map cEdge), int listappend.grain, .sl 2 (listappend.notches.map cNotch), .sl 2 (listappend.corners.map cSpot), .sl 1 (listappend.widths.map cI), boo listappend.match_]), (1, .box [boo a.flip, int a.quarter]), (2, .box [boo a2.flip, int a2.quarter])], 3⟩) (ac e_18 (ac e_21 (ac e_23 (ac e_25 (ac (abf (bne_f c6)) (olen cNotch Tryd.prog 23 2 listappend.notches (by kernel_rfl))))))) (by kernel_rfl) (by kernel_rfl) (Weak.anew [(0, some 0), (1, some 1), (2, some 2)] (by rfl) (wt_cons rfl (wk_ptr rfl) (wt_cons rfl (wk_ptr rfl) (wt_cons rfl (wk_ptr rfl) (wt_cons rfl wk_sl (wt_cons rfl wk_sc (wt_cons rfl wk_sc wt_nil)))))) (wm_box rfl rfl (wl_cons wk_sc (wl_cons wk_sl (wl_cons wk_sc (wl_cons wk_sl (wl_cons wk_sl (wl_cons wk_sl (wl_cons wk_sc wl_nil))))))) (wm_box rfl rfl (wl_cons wk_sc (wl_cons wk_sc wl_nil)) (wm_box rfl rfl (wl_cons wk_sc (wl_cons wk_sc wl_nil)) wm_nil)))) (garmentlaw21_GradeComposes_W0 listappend a a2 r0 I0 M0 h0 0 h)
        · have h := h.2 c6
          obtain ⟨exampleHolds3, c7, h⟩ := h
          rw [h]
          exact sr (ids := []) (vs := [boo exampleHolds3]) (mem := []) (ac e_18 (ac e_21 (ac e_23 (ac e_25 (ac (abt (bne_t c6)) (ocs c7)))))) (by kernel_rfl) (by kernel_rfl) (rts_sc rfl)
      · have h := h.2 c4
        obtain ⟨exampleHolds2, c5, h⟩ := h
        have g_26 := (abt (bne_t c4))
        rw [h]
        exact sr (ids := []) (vs := [boo exampleHolds2]) (mem := []) (ac e_18 (ac e_21 (ac e_23 (ac g_26 (ac g_26 (ac g_26 (ac g_26 (ac g_26 (ac abtt (ocs c5)))))))))) (by kernel_rfl) (by kernel_rfl) (rts_sc rfl)
    · have h := h.2 c3
      obtain ⟨exampleHolds2, c4, h⟩ := h
      have g_27 := (abt (bne_t c3))
      rw [h]
      exact sr (ids := []) (vs := [boo exampleHolds2]) (mem := []) (ac e_18 (ac e_21 (ac g_27 (ac g_27 (ac g_27 (ac g_27 (ac g_27 (ac g_27 (ac g_27 (ac g_27 (ac abtt (ac abtt (ac abtt (ac abtt (ac abtt (ac abtt (ocs c4))))))))))))))))) (by kernel_rfl) (by kernel_rfl) (rts_sc rfl)
  · have h := h.2 c2
    obtain ⟨exampleHolds2, c3, h⟩ := h
    have g_28 := (abt (not_t c2))
    rw [h]
    exact sr (ids := []) (vs := [boo exampleHolds2]) (mem := []) (ac e_18 (ac g_28 (ac g_28 (ac g_28 (ac g_28 (ac g_28 (ac g_28 (ac g_28 (ac g_28 (ac abtt (ac abtt (ac abtt (ac abtt (ac abtt (ac abtt (ac abtt (ac abtt (ac abtt (ac abtt (ac abtt (ac abtt (ac abtt (ac abtt (ocs c3)))))))))))))))))))))))) (by kernel_rfl) (by kernel_rfl) (rts_sc rfl)
end Go.Ab
