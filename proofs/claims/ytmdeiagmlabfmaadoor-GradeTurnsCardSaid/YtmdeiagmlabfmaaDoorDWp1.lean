/- A part of the proof. Conditions: those of each theorem. -/
import Derived.Test.YtmdeiagmlabfmaaDoorDTy
import Derived.Test.YtmdeiagmlabfmaaDoorDX
set_option linter.unusedVariables false
set_option linter.unusedSimpArgs false
set_option linter.unusedSectionVars false

namespace Go.Ab
open Go.Proofs
set_option maxRecDepth 100000
set_option linter.unusedVariables false
attribute [local irreducible] todoQ
-- garmentlaw21.edge
-- garmentref21.Light
def garmentref21_Light_S0 (listappend : Piece) (a : Int) (v5 : Int) (v6 : Int) : AS := ⟨[(1, int a), (2, .ptr 0 0 0), (5, int v5), (6, int v6)], [(0, .box [str listappend.name, .sl 2 (listappend.edges.map cEdge), int listappend.grain, .sl 2 (listappend.notches.map cNotch), .sl 2 (listappend.corners.map cSpot), .sl 1 (listappend.widths.map cI), boo listappend.match_])], 1⟩
abbrev garmentref21_Light_V (listappend : Piece) (a : Int) (r0 : Bool) (I0 : Int → Int → Prop) (M0 : Int → Int → Nat) : Prop := ((((listappend.edges.length : Nat) : Int) > 20 → r0 = false) ∧ (¬ (((listappend.edges.length : Nat) : Int) > 20) → ((((listappend.corners.length : Nat) : Int) > 20 → r0 = false) ∧ (¬ (((listappend.corners.length : Nat) : Int) > 20) → ((((listappend.widths.length : Nat) : Int) > 20 → r0 = false) ∧ (¬ (((listappend.widths.length : Nat) : Int) > 20) → ((((listappend.notches.length : Nat) : Int) > 20 → r0 = false) ∧ (¬ (((listappend.notches.length : Nat) : Int) > 20) → I0 0 0))))))))
abbrev garmentref21_Light_V0 (listappend : Piece) (a : Int) (r0 : Bool) (I0 : Int → Int → Prop) (M0 : Int → Int → Nat) (v5 : Int) (v6 : Int) : Prop := ((v6 < ((listappend.edges.length : Nat) : Int) → (Idx v6 listappend.edges.length) ∧ ((((((ai listappend.edges v6).line).length : Nat) : Int) > a → r0 = false) ∧ (¬ (((((ai listappend.edges v6).line).length : Nat) : Int) > a) → ((((((ai listappend.edges v6).name).size : Nat) : Int) > 100 → r0 = false) ∧ (¬ (((((ai listappend.edges v6).name).size : Nat) : Int) > 100) → (InR (v5 + ((((ai listappend.edges v6).line).length : Nat) : Int))) ∧ (InR (v6 + 1)) ∧ I0 (v5 + ((((ai listappend.edges v6).line).length : Nat) : Int)) (v6 + 1) ∧ M0 (v5 + ((((ai listappend.edges v6).line).length : Nat) : Int)) (v6 + 1) < M0 v5 v6))))) ∧ (¬ (v6 < ((listappend.edges.length : Nat) : Int)) → r0 = (decide (v5 ≤ a))))
theorem garmentref21_Light_W0 (listappend : Piece) (a : Int) (r0 : Bool) (I0 : Int → Int → Prop) (M0 : Int → Int → Nat) (h0 : ∀ (v5 : Int) (v6 : Int), I0 v5 v6 → garmentref21_Light_V0 listappend a r0 I0 M0 v5 v6) : ∀ (x : Int × Int), I0 x.1 x.2 → loopQ Tryd.prog XS Tryd.f9 0 (boo r0) [] (garmentref21_Light_S0 listappend a x.1 x.2) := by
  intro x0 hx0
  refine loop_rule (fun (x : Int × Int) => I0 x.1 x.2) (fun (x : Int × Int) => M0 x.1 x.2) (fun (x : Int × Int) => garmentref21_Light_S0 listappend a x.1 x.2) x0 hx0 ?_
  rintro ⟨v5, v6⟩ hx
  have h := h0 v5 v6 hx
  clear hx hx0 x0
  have g_1 := (olen cEdge Tryd.prog 22 2 listappend.edges (by kernel_rfl))
  by_cases c1 : v6 < ((listappend.edges.length : Nat) : Int)
  · have h := h.1 c1
    obtain ⟨c2, h⟩ := h
    have g_2 := (abt (dec_t c1))
    have g_3 := (oidx cEdge c2)
    have g_4 := (olen cSpot Tryd.prog 24 2 ((ai listappend.edges v6).line) (by kernel_rfl))
    have e_5 := (ac g_2 (ac g_3 g_4))
    by_cases c3 : ((((ai listappend.edges v6).line).length : Nat) : Int) > a
    · have h := h.1 c3
      have g_6 := (abt (dec_t c3))
      rw [h]
      exact sr (ids := []) (vs := [boo false]) (mem := []) (ac g_1 (ac e_5 (ac g_6 (ac g_6 (ac g_6 (ac g_6 (ac g_6 (ac g_6 (ac g_6 (ac g_6 (ac g_6 abtt))))))))))) (by kernel_rfl) (by kernel_rfl) (rts_sc rfl)
    · have h := h.2 c3
      have g_7 := (abf (dec_f c3))
      have e_8 := (ac g_7 (ac g_7 (ac g_7 (ac g_7 (ac g_3 (ac g_7 (ac g_7 (ac g_7 (ac (olens Tryd.prog 9 ((ai listappend.edges v6).name) (by kernel_rfl)) (ac g_7 g_7))))))))))
      by_cases c4 : ((((ai listappend.edges v6).name).size : Nat) : Int) > 100
      · have h := h.1 c4
        have g_9 := (abt (dec_t c4))
        rw [h]
        exact sr (ids := []) (vs := [boo false]) (mem := []) (ac g_1 (ac e_5 (ac e_8 g_9))) (by kernel_rfl) (by kernel_rfl) (rts_sc rfl)
      · have h := h.2 c4
        obtain ⟨c5, c6, h⟩ := h
        have g_10 := (abf (dec_f c4))
        exact sb (ts := [1, 2, 5, 6]) (ids := [0]) (d := 0) (s0 := ⟨[(1, int a), (2, .ptr 0 0 0), (5, int (v5 + ((((ai listappend.edges v6).line).length : Nat) : Int))), (6, int (v6 + 1))], [(0, .box [str listappend.name, .sl 2 (listappend.edges.map cEdge), int listappend.grain, .sl 2 (listappend.notches.map cNotch), .sl 2 (listappend.corners.map cSpot), .sl 1 (listappend.widths.map cI), boo listappend.match_])], 1⟩) (ac g_1 (ac e_5 (ac e_8 (ac g_10 (ac g_3 (ac g_4 (ac (oadd Tryd.prog 3 (wi64 c5)) (oadd Tryd.prog 3 (wi64 c6))))))))) (by kernel_rfl) (by kernel_rfl) rfl ((v5 + ((((ai listappend.edges v6).line).length : Nat) : Int)), (v6 + 1)) h.1 h.2 (Weak.anew [(0, some 0)] (by rfl) (wt_cons rfl wk_sc (wt_cons rfl (wk_ptr rfl) (wt_cons rfl wk_sc (wt_cons rfl wk_sc wt_nil)))) (wm_box rfl rfl (wl_cons wk_sc (wl_cons wk_sl (wl_cons wk_sc (wl_cons wk_sl (wl_cons wk_sl (wl_cons wk_sl (wl_cons wk_sc wl_nil))))))) wm_nil))
  · have h := h.2 c1
    have g_11 := (abf (dec_f c1))
    rw [h]
    exact sr (ids := []) (vs := [boo (decide (v5 ≤ a))]) (mem := []) (ac g_1 g_11) (by kernel_rfl) (by kernel_rfl) (rts_sc rfl)
theorem garmentref21_Light_W (listappend : Piece) (a : Int) (r0 : Bool) (I0 : Int → Int → Prop) (M0 : Int → Int → Nat) (h : garmentref21_Light_V listappend a r0 I0 M0) (h0 : ∀ (v5 : Int) (v6 : Int), I0 v5 v6 → garmentref21_Light_V0 listappend a r0 I0 M0 v5 v6) : Ret Tryd.prog XS 9 [.agg [str listappend.name, .sl 2 (listappend.edges.map cEdge), int listappend.grain, .sl 2 (listappend.notches.map cNotch), .sl 2 (listappend.corners.map cSpot), .sl 1 (listappend.widths.map cI), boo listappend.match_], int a] (boo r0) := by
  refine fn_rule Tryd.func9 (by kernel_rfl) (by kernel_rfl) (by kernel_rfl) (by kernel_rfl) ?_
  have g_12 := (olen cEdge Tryd.prog 22 2 listappend.edges (by kernel_rfl))
  by_cases c1 : ((listappend.edges.length : Nat) : Int) > 20
  · have h := h.1 c1
    have g_13 := (abt (dec_t c1))
    rw [h]
    exact sr (ids := []) (vs := [boo false]) (mem := []) (ac g_12 (ac g_13 (ac g_13 (ac g_13 (ac g_13 (ac g_13 (ac abtt (ac abtt (ac abtt (ac abtt (ac abtt (ac abtt (ac abtt (ac abtt (ac abtt (ac abtt abtt)))))))))))))))) (by kernel_rfl) (by kernel_rfl) (rts_sc rfl)
  · have h := h.2 c1
    have g_14 := (abf (dec_f c1))
    have e_15 := (ac g_14 (ac g_14 (ac g_14 (ac (olen cSpot Tryd.prog 24 2 listappend.corners (by kernel_rfl)) (ac g_14 g_14)))))
    by_cases c2 : ((listappend.corners.length : Nat) : Int) > 20
    · have h := h.1 c2
      have g_16 := (abt (dec_t c2))
      rw [h]
      exact sr (ids := []) (vs := [boo false]) (mem := []) (ac g_12 (ac e_15 (ac g_16 (ac g_16 (ac g_16 (ac g_16 (ac g_16 (ac abtt (ac abtt (ac abtt (ac abtt (ac abtt abtt)))))))))))) (by kernel_rfl) (by kernel_rfl) (rts_sc rfl)
    · have h := h.2 c2
      have g_17 := (abf (dec_f c2))
      have e_18 := (ac g_17 (ac g_17 (ac g_17 (ac (olen cI Tryd.prog 25 1 listappend.widths (by kernel_rfl)) (ac g_17 g_17)))))
      by_cases c3 : ((listappend.widths.length : Nat) : Int) > 20
      · have h := h.1 c3
        have g_19 := (abt (dec_t c3))
        rw [h]
        exact sr (ids := []) (vs := [boo false]) (mem := []) (ac g_12 (ac e_15 (ac e_18 (ac g_19 (ac g_19 (ac g_19 (ac g_19 (ac g_19 abtt)))))))) (by kernel_rfl) (by kernel_rfl) (rts_sc rfl)
      · have h := h.2 c3
        have g_20 := (abf (dec_f c3))
        have e_21 := (ac g_20 (ac g_20 (ac g_20 (ac (olen cNotch Tryd.prog 23 2 listappend.notches (by kernel_rfl)) (ac g_20 g_20)))))
        by_cases c4 : ((listappend.notches.length : Nat) : Int) > 20
        · have h := h.1 c4
          have g_22 := (abt (dec_t c4))
          rw [h]
          exact sr (ids := []) (vs := [boo false]) (mem := []) (ac g_12 (ac e_15 (ac e_18 (ac e_21 g_22)))) (by kernel_rfl) (by kernel_rfl) (rts_sc rfl)
        · have h := h.2 c4
          have g_23 := (abf (dec_f c4))
          exact sl (ts := [1, 2, 5, 6]) (ids := [0]) (d := 0) (s0 := ⟨[(1, int a), (2, .ptr 0 0 0), (5, int 0), (6, int 0)], [(0, .box [str listappend.name, .sl 2 (listappend.edges.map cEdge), int listappend.grain, .sl 2 (listappend.notches.map cNotch), .sl 2 (listappend.corners.map cSpot), .sl 1 (listappend.widths.map cI), boo listappend.match_])], 1⟩) (ac g_12 (ac e_15 (ac e_18 (ac e_21 g_23)))) (by kernel_rfl) (by kernel_rfl) (Weak.anew [(0, some 0)] (by rfl) (wt_cons rfl wk_sc (wt_cons rfl (wk_ptr rfl) (wt_cons rfl wk_sc (wt_cons rfl wk_sc wt_nil)))) (wm_box rfl rfl (wl_cons wk_sc (wl_cons wk_sl (wl_cons wk_sc (wl_cons wk_sl (wl_cons wk_sl (wl_cons wk_sl (wl_cons wk_sc wl_nil))))))) wm_nil)) (garmentref21_Light_W0 listappend a r0 I0 M0 h0 (0, 0) h)

-- grade.Graded
def grade_Graded_S0 (listappend : Piece) (a : Int) (v34 : Int) : AS := ⟨[(1, int a), (2, .ptr 0 0 0), (32, .sl 2 (listappend.corners.map cSpot)), (33, int ((listappend.corners.length : Nat) : Int)), (34, int v34)], [(0, .box [str listappend.name, .sl 2 (listappend.edges.map cEdge), int listappend.grain, .sl 2 (listappend.notches.map cNotch), .sl 2 (listappend.corners.map cSpot), .sl 1 (listappend.widths.map cI), boo listappend.match_])], 1⟩
def grade_Graded_S1 (listappend : Piece) (a : Int) (v10 : List Edge) (v53 : Int) : AS := ⟨[(2, .ptr 0 0 0), (9, .fn 27 [int a] []), (10, .own 1 0 v10.length), (51, .sl 2 (listappend.edges.map cEdge)), (52, int ((listappend.edges.length : Nat) : Int)), (53, int v53)], [(1, .row 2 (v10.map cEdge)), (0, .box [str listappend.name, .sl 2 (listappend.edges.map cEdge), int listappend.grain, .sl 2 (listappend.notches.map cNotch), .sl 2 (listappend.corners.map cSpot), .sl 1 (listappend.widths.map cI), boo listappend.match_])], 2⟩
abbrev grade_Graded_V (listappend : Piece) (a : Int) (r0 : List Edge) (r1 : Int) (I0 : Int → Prop) (M0 : Int → Nat) (I1 : (List Edge) → Int → Prop) (M1 : (List Edge) → Int → Nat) : Prop := ((a < (-100) → r0 = ([] : List Edge) ∧ r1 = 3) ∧ (¬ (a < (-100)) → ((a > 100 → r0 = ([] : List Edge) ∧ r1 = 3) ∧ (¬ (a > 100) → ((((listappend.corners.length : Nat) : Int) = ((listappend.edges.length : Nat) : Int) → I0 0) ∧ (¬ (((listappend.corners.length : Nat) : Int) = ((listappend.edges.length : Nat) : Int)) → r0 = ([] : List Edge) ∧ r1 = 1))))))
abbrev grade_Graded_V0 (listappend : Piece) (a : Int) (r0 : List Edge) (r1 : Int) (I0 : Int → Prop) (M0 : Int → Nat) (I1 : (List Edge) → Int → Prop) (M1 : (List Edge) → Int → Nat) (v34 : Int) : Prop := ((v34 < ((listappend.corners.length : Nat) : Int) → (Idx v34 listappend.corners.length) ∧ (∃ (shifted1 : Bool), Ret Tryd.prog XS 26 [.agg [int ((ai listappend.corners v34).x), int ((ai listappend.corners v34).y)]] (boo shifted1) ∧ ((shifted1 = true → (InR (v34 + 1)) ∧ I0 (v34 + 1) ∧ M0 (v34 + 1) < M0 v34) ∧ (shifted1 = false → r0 = ([] : List Edge) ∧ r1 = 3)))) ∧ (¬ (v34 < ((listappend.corners.length : Nat) : Int)) → (∃ (check1 : Int), Ret Tryd.prog XS 19 [.sl 2 (listappend.edges.map cEdge)] (int check1) ∧ ((check1 = 0 → I1 ([] : List Edge) 0) ∧ (¬ (check1 = 0) → r0 = ([] : List Edge) ∧ r1 = check1)))))
abbrev grade_Graded_V1 (listappend : Piece) (a : Int) (r0 : List Edge) (r1 : Int) (I0 : Int → Prop) (M0 : Int → Nat) (I1 : (List Edge) → Int → Prop) (M1 : (List Edge) → Int → Nat) (v10 : List Edge) (v53 : Int) : Prop := ((v53 < ((listappend.edges.length : Nat) : Int) → (Idx v53 listappend.edges.length) ∧ (Idx v53 listappend.corners.length) ∧ (∃ (move1 : Spot), Ret Tryd.prog XS 27 [int a, .agg [int ((ai listappend.corners v53).x), int ((ai listappend.corners v53).y)]] (.agg [int move1.x, int move1.y]) ∧ (InR (v53 + 1)) ∧ (((listappend.corners.length : Nat) : Int) ≠ 0) ∧ (Idx ((v53 + 1).tmod ((listappend.corners.length : Nat) : Int)) listappend.corners.length) ∧ (∃ (move2 : Spot), Ret Tryd.prog XS 27 [int a, .agg [int ((ai listappend.corners ((v53 + 1).tmod ((listappend.corners.length : Nat) : Int))).x), int ((ai listappend.corners ((v53 + 1).tmod ((listappend.corners.length : Nat) : Int))).y)]] (.agg [int move2.x, int move2.y]) ∧ (∃ (along3 : List Spot), Ret Tryd.prog XS 28 [.sl 2 (((ai listappend.edges v53).line).map cSpot), .agg [int move1.x, int move1.y], .agg [int move2.x, int move2.y]] (.fr 2 (along3.map cSpot)) ∧ (Cap 40 (v10 ++ ([(⟨(ai listappend.edges v53).name, along3⟩ : Edge)] : List Edge)).length) ∧ I1 (v10 ++ ([(⟨(ai listappend.edges v53).name, along3⟩ : Edge)] : List Edge)) (v53 + 1) ∧ M1 (v10 ++ ([(⟨(ai listappend.edges v53).name, along3⟩ : Edge)] : List Edge)) (v53 + 1) < M1 v10 v53)))) ∧ (¬ (v53 < ((listappend.edges.length : Nat) : Int)) → (∃ (check1_1 : Int), Ret Tryd.prog XS 19 [.sl 2 (v10.map cEdge)] (int check1_1) ∧ ((check1_1 = 0 → r0 = v10 ∧ r1 = 0) ∧ (¬ (check1_1 = 0) → r0 = ([] : List Edge) ∧ r1 = check1_1)))))
theorem grade_Graded_W1 (listappend : Piece) (a : Int) (r0 : List Edge) (r1 : Int) (I0 : Int → Prop) (M0 : Int → Nat) (I1 : (List Edge) → Int → Prop) (M1 : (List Edge) → Int → Nat) (h0 : ∀ (v34 : Int), I0 v34 → grade_Graded_V0 listappend a r0 r1 I0 M0 I1 M1 v34) (h1 : ∀ (v10 : List Edge) (v53 : Int), I1 v10 v53 → grade_Graded_V1 listappend a r0 r1 I0 M0 I1 M1 v10 v53) : ∀ (x : (List Edge) × Int), I1 x.1 x.2 → loopQ Tryd.prog XS Tryd.f11 1 (.tup [.fr 2 (r0.map cEdge), int r1]) [] (grade_Graded_S1 listappend a x.1 x.2) := by
  intro x0 hx0
  refine loop_rule (fun (x : (List Edge) × Int) => I1 x.1 x.2) (fun (x : (List Edge) × Int) => M1 x.1 x.2) (fun (x : (List Edge) × Int) => grade_Graded_S1 listappend a x.1 x.2) x0 hx0 ?_
  rintro ⟨v10, v53⟩ hx
  have h := h1 v10 v53 hx
  clear hx hx0 x0
  by_cases c1 : v53 < ((listappend.edges.length : Nat) : Int)
  · have h := h.1 c1
    obtain ⟨c2, c3, move1, c4, c5, c6, c7, move2, c8, along3, c9, c10, h⟩ := h
    have g_1 := (abt (dec_t c1))
    have g_2 := (oadd Tryd.prog 3 (wi64 c5))
    have g_3 := (olen cSpot Tryd.prog 24 2 listappend.corners (by kernel_rfl))
    exact sb (ts := [2, 9, 10, 51, 52, 53]) (ids := [7, 0]) (d := 0) (s0 := ⟨[(2, .ptr 0 0 0), (9, .fn 27 [int a] []), (10, .own 7 0 ((v10 ++ ([(⟨(ai listappend.edges v53).name, along3⟩ : Edge)] : List Edge)).length)), (51, .sl 2 (listappend.edges.map cEdge)), (52, int ((listappend.edges.length : Nat) : Int)), (53, int (v53 + 1))], [(7, .row 2 ((v10 ++ ([(⟨(ai listappend.edges v53).name, along3⟩ : Edge)] : List Edge)).map cEdge)), (0, .box [str listappend.name, .sl 2 (listappend.edges.map cEdge), int listappend.grain, .sl 2 (listappend.notches.map cNotch), .sl 2 (listappend.corners.map cSpot), .sl 1 (listappend.widths.map cI), boo listappend.match_])], 8⟩) (ac g_1 (ac (oidx cEdge c2) (ac (oidx cSpot c3) (ac (ocs c4) (ac g_2 (ac g_3 (ac (orem Tryd.prog 3 .i64 (v53 + 1) ((listappend.corners.length : Nat) : Int) c6) (ac (oidx cSpot c7) (ac (ocs c8) (ac (ocs c9) (ac (ofz cSpot along3 (n := (along3.map cSpot).length) (List.length_map ..)) (ac (oappo cEdge (n := v10.length) (m := ([(⟨(ai listappend.edges v53).name, along3⟩ : Edge)] : List Edge).length) rfl rfl c10) g_2)))))))))))) (by kernel_rfl) (by kernel_rfl) rfl ((v10 ++ ([(⟨(ai listappend.edges v53).name, along3⟩ : Edge)] : List Edge)), (v53 + 1)) h.1 h.2 (Weak.anew [(1, some 7), (0, some 0)] (by rfl) (wt_cons rfl (wk_ptr rfl) (wt_cons rfl (wk_fn (wl_cons wk_sc wl_nil) wl_nil) (wt_cons rfl (wk_own rfl rfl) (wt_cons rfl wk_sl (wt_cons rfl wk_sc (wt_cons rfl wk_sc wt_nil)))))) (wm_row rfl rfl (wm_box rfl rfl (wl_cons wk_sc (wl_cons wk_sl (wl_cons wk_sc (wl_cons wk_sl (wl_cons wk_sl (wl_cons wk_sl (wl_cons wk_sc wl_nil))))))) wm_nil)))
  · have h := h.2 c1
    obtain ⟨check1_1, c2, h⟩ := h
    have g_4 := (abf (dec_f c1))
    have e_5 := (ac g_4 (ocl [1] [(1, .row 2 (v10.map cEdge))] [.own 1 0 v10.length] (as_cons (at_row rfl rfl) as_nil) c2))
    by_cases c3 : check1_1 = 0
    · have h := h.1 c3
      have g_6 := (abf (bne_f c3))
      rw [h.1, h.2]
      exact sr (ids := [1]) (vs := [.own 1 0 v10.length, int 0]) (mem := [(1, .row 2 (v10.map cEdge))]) (ac e_5 g_6) (by kernel_rfl) (by kernel_rfl) (rts_own rfl rfl rfl (rts_sc rfl))
    · have h := h.2 c3
      have g_7 := (abt (bne_t c3))
      rw [h.1, h.2]
      exact sr (ids := []) (vs := [.nil, int check1_1]) (mem := []) (ac e_5 g_7) (by kernel_rfl) (by kernel_rfl) (rts_nilfr (rts_sc rfl))
theorem grade_Graded_W0 (listappend : Piece) (a : Int) (r0 : List Edge) (r1 : Int) (I0 : Int → Prop) (M0 : Int → Nat) (I1 : (List Edge) → Int → Prop) (M1 : (List Edge) → Int → Nat) (h0 : ∀ (v34 : Int), I0 v34 → grade_Graded_V0 listappend a r0 r1 I0 M0 I1 M1 v34) (h1 : ∀ (v10 : List Edge) (v53 : Int), I1 v10 v53 → grade_Graded_V1 listappend a r0 r1 I0 M0 I1 M1 v10 v53) : ∀ (x : Int), I0 x → loopQ Tryd.prog XS Tryd.f11 0 (.tup [.fr 2 (r0.map cEdge), int r1]) [] (grade_Graded_S0 listappend a x) := by
  intro x0 hx0
  refine loop_rule (fun (x : Int) => I0 x) (fun (x : Int) => M0 x) (fun (x : Int) => grade_Graded_S0 listappend a x) x0 hx0 ?_
  intro v34 hx
  have h := h0 v34 hx
  clear hx hx0 x0
  by_cases c1 : v34 < ((listappend.corners.length : Nat) : Int)
  · have h := h.1 c1
    obtain ⟨c2, shifted1, c3, h⟩ := h
    have g_8 := (abt (dec_t c1))
    have e_9 := (ac g_8 (ac (oidx cSpot c2) (ocs c3)))
    rcases Bool.eq_false_or_eq_true shifted1 with c4 | c4
    · have h := h.1 c4
      obtain ⟨c5, h⟩ := h
      have g_10 := (oadd Tryd.prog 3 (wi64 c5))
      exact sb (ts := [1, 2, 32, 33, 34]) (ids := [0]) (d := 0) (s0 := ⟨[(1, int a), (2, .ptr 0 0 0), (32, .sl 2 (listappend.corners.map cSpot)), (33, int ((listappend.corners.length : Nat) : Int)), (34, int (v34 + 1))], [(0, .box [str listappend.name, .sl 2 (listappend.edges.map cEdge), int listappend.grain, .sl 2 (listappend.notches.map cNotch), .sl 2 (listappend.corners.map cSpot), .sl 1 (listappend.widths.map cI), boo listappend.match_])], 2⟩) (ac e_9 (ac (abf (not_f c4)) g_10)) (by kernel_rfl) (by kernel_rfl) rfl (v34 + 1) h.1 h.2 (Weak.anew [(0, some 0)] (by rfl) (wt_cons rfl wk_sc (wt_cons rfl (wk_ptr rfl) (wt_cons rfl wk_sl (wt_cons rfl wk_sc (wt_cons rfl wk_sc wt_nil))))) (wm_box rfl rfl (wl_cons wk_sc (wl_cons wk_sl (wl_cons wk_sc (wl_cons wk_sl (wl_cons wk_sl (wl_cons wk_sl (wl_cons wk_sc wl_nil))))))) wm_nil))
    · have h := h.2 c4
      rw [h.1, h.2]
      exact sr (ids := []) (vs := [.nil, int 3]) (mem := []) (ac e_9 (abt (not_t c4))) (by kernel_rfl) (by kernel_rfl) (rts_nilfr (rts_sc rfl))
  · have h := h.2 c1
    obtain ⟨check1, c2, h⟩ := h
    have g_11 := (abf (dec_f c1))
    have e_12 := (ac g_11 (ocs c2))
    by_cases c3 : check1 = 0
    · have h := h.1 c3
      have g_13 := (abf (bne_f c3))
      have g_14 := (olen cEdge Tryd.prog 22 2 listappend.edges (by kernel_rfl))
      exact sl (ts := [2, 9, 10, 51, 52, 53]) (ids := [0]) (d := 1) (s0 := ⟨[(2, .ptr 0 0 0), (9, .fn 27 [int a] []), (10, .nil), (51, .sl 2 (listappend.edges.map cEdge)), (52, int ((listappend.edges.length : Nat) : Int)), (53, int 0)], [(0, .box [str listappend.name, .sl 2 (listappend.edges.map cEdge), int listappend.grain, .sl 2 (listappend.notches.map cNotch), .sl 2 (listappend.corners.map cSpot), .sl 1 (listappend.widths.map cI), boo listappend.match_])], 1⟩) (ac e_12 (ac g_13 g_14)) (by kernel_rfl) (by kernel_rfl) (Weak.anew [(1, none), (0, some 0)] (by rfl) (wt_cons rfl (wk_ptr rfl) (wt_cons rfl (wk_fn (wl_cons wk_sc wl_nil) wl_nil) (wt_cons rfl (wk_nilown rfl) (wt_cons rfl wk_sl (wt_cons rfl wk_sc (wt_cons rfl wk_sc wt_nil)))))) (wm_none rfl (wm_box rfl rfl (wl_cons wk_sc (wl_cons wk_sl (wl_cons wk_sc (wl_cons wk_sl (wl_cons wk_sl (wl_cons wk_sl (wl_cons wk_sc wl_nil))))))) wm_nil))) (grade_Graded_W1 listappend a r0 r1 I0 M0 I1 M1 h0 h1 (([] : List Edge), 0) h)
    · have h := h.2 c3
      have g_15 := (abt (bne_t c3))
      rw [h.1, h.2]
      exact sr (ids := []) (vs := [.nil, int check1]) (mem := []) (ac e_12 g_15) (by kernel_rfl) (by kernel_rfl) (rts_nilfr (rts_sc rfl))
theorem grade_Graded_W (listappend : Piece) (a : Int) (r0 : List Edge) (r1 : Int) (I0 : Int → Prop) (M0 : Int → Nat) (I1 : (List Edge) → Int → Prop) (M1 : (List Edge) → Int → Nat) (h : grade_Graded_V listappend a r0 r1 I0 M0 I1 M1) (h0 : ∀ (v34 : Int), I0 v34 → grade_Graded_V0 listappend a r0 r1 I0 M0 I1 M1 v34) (h1 : ∀ (v10 : List Edge) (v53 : Int), I1 v10 v53 → grade_Graded_V1 listappend a r0 r1 I0 M0 I1 M1 v10 v53) : Ret Tryd.prog XS 11 [.agg [str listappend.name, .sl 2 (listappend.edges.map cEdge), int listappend.grain, .sl 2 (listappend.notches.map cNotch), .sl 2 (listappend.corners.map cSpot), .sl 1 (listappend.widths.map cI), boo listappend.match_], int a] (.tup [.fr 2 (r0.map cEdge), int r1]) := by
  refine fn_rule Tryd.func11 (by kernel_rfl) (by kernel_rfl) (by kernel_rfl) (by kernel_rfl) ?_
  by_cases c1 : a < (-100)
  · have h := h.1 c1
    have g_16 := (abt (dec_t c1))
    rw [h.1, h.2]
    exact sr (ids := []) (vs := [.nil, int 3]) (mem := []) (ac g_16 (ac g_16 (ac g_16 abtt))) (by kernel_rfl) (by kernel_rfl) (rts_nilfr (rts_sc rfl))
  · have h := h.2 c1
    have g_17 := (abf (dec_f c1))
    have e_18 := (ac g_17 (ac g_17 g_17))
    by_cases c2 : a > 100
    · have h := h.1 c2
      rw [h.1, h.2]
      exact sr (ids := []) (vs := [.nil, int 3]) (mem := []) (ac e_18 (abt (dec_t c2))) (by kernel_rfl) (by kernel_rfl) (rts_nilfr (rts_sc rfl))
    · have h := h.2 c2
      have g_19 := (olen cSpot Tryd.prog 24 2 listappend.corners (by kernel_rfl))
      have g_20 := (olen cEdge Tryd.prog 22 2 listappend.edges (by kernel_rfl))
      have e_21 := (ac (abf (dec_f c2)) (ac g_19 g_20))
      by_cases c3 : ((listappend.corners.length : Nat) : Int) = ((listappend.edges.length : Nat) : Int)
      · have h := h.1 c3
        have g_22 := (abf (bne_f c3))
        exact sl (ts := [1, 2, 32, 33, 34]) (ids := [0]) (d := 0) (s0 := ⟨[(1, int a), (2, .ptr 0 0 0), (32, .sl 2 (listappend.corners.map cSpot)), (33, int ((listappend.corners.length : Nat) : Int)), (34, int 0)], [(0, .box [str listappend.name, .sl 2 (listappend.edges.map cEdge), int listappend.grain, .sl 2 (listappend.notches.map cNotch), .sl 2 (listappend.corners.map cSpot), .sl 1 (listappend.widths.map cI), boo listappend.match_])], 1⟩) (ac e_18 (ac e_21 (ac g_22 g_19))) (by kernel_rfl) (by kernel_rfl) (Weak.anew [(0, some 0)] (by rfl) (wt_cons rfl wk_sc (wt_cons rfl (wk_ptr rfl) (wt_cons rfl wk_sl (wt_cons rfl wk_sc (wt_cons rfl wk_sc wt_nil))))) (wm_box rfl rfl (wl_cons wk_sc (wl_cons wk_sl (wl_cons wk_sc (wl_cons wk_sl (wl_cons wk_sl (wl_cons wk_sl (wl_cons wk_sc wl_nil))))))) wm_nil)) (grade_Graded_W0 listappend a r0 r1 I0 M0 I1 M1 h0 h1 0 h)
      · have h := h.2 c3
        have g_23 := (abt (bne_t c3))
        rw [h.1, h.2]
        exact sr (ids := []) (vs := [.nil, int 1]) (mem := []) (ac e_18 (ac e_21 g_23)) (by kernel_rfl) (by kernel_rfl) (rts_nilfr (rts_sc rfl))

end Go.Ab
