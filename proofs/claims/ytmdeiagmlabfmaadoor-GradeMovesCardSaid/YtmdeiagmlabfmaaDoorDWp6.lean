/- A part of the proof. Conditions: those of each theorem. -/
import Derived.Test.YtmdeiagmlabfmaaDoorDTy
import Derived.Test.YtmdeiagmlabfmaaDoorDX
set_option linter.unusedVariables false
set_option linter.unusedSimpArgs false
set_option linter.unusedSectionVars false

section
namespace Go.Ab
open Go.Proofs
set_option maxRecDepth 100000
set_option linter.unusedVariables false
attribute [local irreducible] todoQ
-- garmentlaw21.edge
-- garmentref21.Light
def garmentref21_Light_S0 (listappend : Piece) (a : Int) (v5 : Int) (v6 : Int) : AS := ⟨[(1, int a), (2, .ptr 0 0 0), (5, int v5), (6, int v6)], [(0, .box [str listappend.name, .sl 2 (listappend.edges.map cEdge), int listappend.grain, .sl 2 (listappend.notches.map cNotch), .sl 2 (listappend.corners.map cSpot), .sl 1 (listappend.widths.map cI), boo listappend.match_])], 1⟩
abbrev garmentref21_Light_V (listappend : Piece) (a : Int) (r0 : Bool) (I0 : Int → Int → Prop) (M0 : Int → Int → Nat) : Prop := ((((listappend.edges.length : Nat) : Int) > 20 → r0 = false) ∧ (¬ (((listappend.edges.length : Nat) : Int) > 20) → ((((listappend.corners.length : Nat) : Int) > 20 → r0 = false) ∧ (¬ (((listappend.corners.length : Nat) : Int) > 20) → ((((listappend.widths.length : Nat) : Int) > 20 → r0 = false) ∧ (¬ (((listappend.widths.length : Nat) : Int) > 20) → ((((listappend.notches.length : Nat) : Int) > 20 → r0 = false) ∧ (¬ (((listappend.notches.length : Nat) : Int) > 20) → I0 0 0))))))))
abbrev garmentref21_Light_V0 (listappend : Piece) (a : Int) (r0 : Bool) (I0 : Int → Int → Prop) (M0 : Int → Int → Nat) (v5 : Int) (v6 : Int) : Prop := ((v6 < ((listappend.edges.length : Nat) : Int) → (Idx v6 listappend.edges.length) ∧ ((((((ai listappend.edges v6).line).length : Nat) : Int) > a → r0 = false) ∧ (¬ (((((ai listappend.edges v6).line).length : Nat) : Int) > a) → ((((((ai listappend.edges v6).name).size : Nat) : Int) > 100 → r0 = false) ∧ (¬ (((((ai listappend.edges v6).name).size : Nat) : Int) > 100) → (InR (v5 + ((((ai listappend.edges v6).line).length : Nat) : Int))) ∧ (InR (v6 + 1)) ∧ I0 (v5 + ((((ai listappend.edges v6).line).length : Nat) : Int)) (v6 + 1) ∧ M0 (v5 + ((((ai listappend.edges v6).line).length : Nat) : Int)) (v6 + 1) < M0 v5 v6))))) ∧ (¬ (v6 < ((listappend.edges.length : Nat) : Int)) → r0 = (decide (v5 ≤ a))))
theorem garmentref21_Light_W0 (listappend : Piece) (a : Int) (r0 : Bool) (I0 : Int → Int → Prop) (M0 : Int → Int → Nat) (h0 : ∀ (v5 : Int) (v6 : Int), I0 v5 v6 → garmentref21_Light_V0 listappend a r0 I0 M0 v5 v6) : ∀ (x : Int × Int), I0 x.1 x.2 → loopQ Tryd.prog XS Tryd.f9 0 (boo r0) [] (garmentref21_Light_S0 listappend a x.1 x.2) := by
  intro x0 hx0
  refine loop_rule (fun (x : Int × Int) => I0 x.1 x.2) (fun (x : Int × Int) => M0 x.1 x.2) (fun (x : Int × Int) => garmentref21_Light_S0 listappend a x.1 x.2) x0 hx0 ?_
  rintro ⟨v5, v6⟩ hx
  have h := h0 v5 v6 hx
  clear hx hx0 x0
  have g_1 := (olen cEdge Tryd.prog 22 2 listappend.edges (by kernel_rfl))
  by_cases c1 : v6 < ((listappend.edges.length : Nat) : Int)
  · have h := h.1 c1
    obtain ⟨c2, h⟩ := h
    have g_2 := (abt (dec_t c1))
    have g_3 := (oidx cEdge c2)
    have g_4 := (olen cSpot Tryd.prog 24 2 ((ai listappend.edges v6).line) (by kernel_rfl))
    have e_5 := (ac g_2 (ac g_3 g_4))
    by_cases c3 : ((((ai listappend.edges v6).line).length : Nat) : Int) > a
    · have h := h.1 c3
      have g_6 := (abt (dec_t c3))
      rw [h]
      exact sr (ids := []) (vs := [boo false]) (mem := []) (ac g_1 (ac e_5 (ac g_6 (ac g_6 (ac g_6 (ac g_6 (ac g_6 (ac g_6 (ac g_6 (ac g_6 (ac g_6 abtt))))))))))) (by kernel_rfl) (by kernel_rfl) (rts_sc rfl)
    · have h := h.2 c3
      have g_7 := (abf (dec_f c3))
      have e_8 := (ac g_7 (ac g_7 (ac g_7 (ac g_7 (ac g_3 (ac g_7 (ac g_7 (ac g_7 (ac (olens Tryd.prog 9 ((ai listappend.edges v6).name) (by kernel_rfl)) (ac g_7 g_7))))))))))
      by_cases c4 : ((((ai listappend.edges v6).name).size : Nat) : Int) > 100
      · have h := h.1 c4
        have g_9 := (abt (dec_t c4))
        rw [h]
        exact sr (ids := []) (vs := [boo false]) (mem := []) (ac g_1 (ac e_5 (ac e_8 g_9))) (by kernel_rfl) (by kernel_rfl) (rts_sc rfl)
      · have h := h.2 c4
        obtain ⟨c5, c6, h⟩ := h
        have g_10 := (abf (dec_f c4))
        exact sb (ts := [1, 2, 5, 6]) (ids := [0]) (d := 0) (s0 := ⟨[(1, int a), (2, .ptr 0 0 0), (5, int (v5 + ((((ai listappend.edges v6).line).length : Nat) : Int))), (6, int (v6 + 1))], [(0, .box [str listappend.name, .sl 2 (listappend.edges.map cEdge), int listappend.grain, .sl 2 (listappend.notches.map cNotch), .sl 2 (listappend.corners.map cSpot), .sl 1 (listappend.widths.map cI), boo listappend.match_])], 1⟩) (ac g_1 (ac e_5 (ac e_8 (ac g_10 (ac g_3 (ac g_4 (ac (oadd Tryd.prog 3 (wi64 c5)) (oadd Tryd.prog 3 (wi64 c6))))))))) (by kernel_rfl) (by kernel_rfl) rfl ((v5 + ((((ai listappend.edges v6).line).length : Nat) : Int)), (v6 + 1)) h.1 h.2 (Weak.anew [(0, some 0)] (by rfl) (wt_cons rfl wk_sc (wt_cons rfl (wk_ptr rfl) (wt_cons rfl wk_sc (wt_cons rfl wk_sc wt_nil)))) (wm_box rfl rfl (wl_cons wk_sc (wl_cons wk_sl (wl_cons wk_sc (wl_cons wk_sl (wl_cons wk_sl (wl_cons wk_sl (wl_cons wk_sc wl_nil))))))) wm_nil))
  · have h := h.2 c1
    have g_11 := (abf (dec_f c1))
    rw [h]
    exact sr (ids := []) (vs := [boo (decide (v5 ≤ a))]) (mem := []) (ac g_1 g_11) (by kernel_rfl) (by kernel_rfl) (rts_sc rfl)
theorem garmentref21_Light_W (listappend : Piece) (a : Int) (r0 : Bool) (I0 : Int → Int → Prop) (M0 : Int → Int → Nat) (h : garmentref21_Light_V listappend a r0 I0 M0) (h0 : ∀ (v5 : Int) (v6 : Int), I0 v5 v6 → garmentref21_Light_V0 listappend a r0 I0 M0 v5 v6) : Ret Tryd.prog XS 9 [.agg [str listappend.name, .sl 2 (listappend.edges.map cEdge), int listappend.grain, .sl 2 (listappend.notches.map cNotch), .sl 2 (listappend.corners.map cSpot), .sl 1 (listappend.widths.map cI), boo listappend.match_], int a] (boo r0) := by
  refine fn_rule Tryd.func9 (by kernel_rfl) (by kernel_rfl) (by kernel_rfl) (by kernel_rfl) ?_
  have g_12 := (olen cEdge Tryd.prog 22 2 listappend.edges (by kernel_rfl))
  by_cases c1 : ((listappend.edges.length : Nat) : Int) > 20
  · have h := h.1 c1
    have g_13 := (abt (dec_t c1))
    rw [h]
    exact sr (ids := []) (vs := [boo false]) (mem := []) (ac g_12 (ac g_13 (ac g_13 (ac g_13 (ac g_13 (ac g_13 (ac abtt (ac abtt (ac abtt (ac abtt (ac abtt (ac abtt (ac abtt (ac abtt (ac abtt (ac abtt abtt)))))))))))))))) (by kernel_rfl) (by kernel_rfl) (rts_sc rfl)
  · have h := h.2 c1
    have g_14 := (abf (dec_f c1))
    have e_15 := (ac g_14 (ac g_14 (ac g_14 (ac (olen cSpot Tryd.prog 24 2 listappend.corners (by kernel_rfl)) (ac g_14 g_14)))))
    by_cases c2 : ((listappend.corners.length : Nat) : Int) > 20
    · have h := h.1 c2
      have g_16 := (abt (dec_t c2))
      rw [h]
      exact sr (ids := []) (vs := [boo false]) (mem := []) (ac g_12 (ac e_15 (ac g_16 (ac g_16 (ac g_16 (ac g_16 (ac g_16 (ac abtt (ac abtt (ac abtt (ac abtt (ac abtt abtt)))))))))))) (by kernel_rfl) (by kernel_rfl) (rts_sc rfl)
    · have h := h.2 c2
      have g_17 := (abf (dec_f c2))
      have e_18 := (ac g_17 (ac g_17 (ac g_17 (ac (olen cI Tryd.prog 25 1 listappend.widths (by kernel_rfl)) (ac g_17 g_17)))))
      by_cases c3 : ((listappend.widths.length : Nat) : Int) > 20
      · have h := h.1 c3
        have g_19 := (abt (dec_t c3))
        rw [h]
        exact sr (ids := []) (vs := [boo false]) (mem := []) (ac g_12 (ac e_15 (ac e_18 (ac g_19 (ac g_19 (ac g_19 (ac g_19 (ac g_19 abtt)))))))) (by kernel_rfl) (by kernel_rfl) (rts_sc rfl)
      · have h := h.2 c3
        have g_20 := (abf (dec_f c3))
        have e_21 := (ac g_20 (ac g_20 (ac g_20 (ac (olen cNotch Tryd.prog 23 2 listappend.notches (by kernel_rfl)) (ac g_20 g_20)))))
        by_cases c4 : ((listappend.notches.length : Nat) : Int) > 20
        · have h := h.1 c4
          have g_22 := (abt (dec_t c4))
          rw [h]
          exact sr (ids := []) (vs := [boo false]) (mem := []) (ac g_12 (ac e_15 (ac e_18 (ac e_21 g_22)))) (by kernel_rfl) (by kernel_rfl) (rts_sc rfl)
        · have h := h.2 c4
          have g_23 := (abf (dec_f c4))
          exact sl (ts := [1, 2, 5, 6]) (ids := [0]) (d := 0) (s0 := ⟨[(1, int a), (2, .ptr 0 0 0), (5, int 0), (6, int 0)], [(0, .box [str listappend.name, .sl 2 (listappend.edges.map cEdge), int listappend.grain, .sl 2 (listappend.notches.map cNotch), .sl 2 (listappend.corners.map cSpot), .sl 1 (listappend.widths.map cI), boo listappend.match_])], 1⟩) (ac g_12 (ac e_15 (ac e_18 (ac e_21 g_23)))) (by kernel_rfl) (by kernel_rfl) (Weak.anew [(0, some 0)] (by rfl) (wt_cons rfl wk_sc (wt_cons rfl (wk_ptr rfl) (wt_cons rfl wk_sc (wt_cons rfl wk_sc wt_nil)))) (wm_box rfl rfl (wl_cons wk_sc (wl_cons wk_sl (wl_cons wk_sc (wl_cons wk_sl (wl_cons wk_sl (wl_cons wk_sl (wl_cons wk_sc wl_nil))))))) wm_nil)) (garmentref21_Light_W0 listappend a r0 I0 M0 h0 (0, 0) h)

-- grade.Graded
def grade_Graded_S0 (listappend : Piece) (a : Int) (v34 : Int) : AS := ⟨[(1, int a), (2, .ptr 0 0 0), (32, .sl 2 (listappend.corners.map cSpot)), (33, int ((listappend.corners.length : Nat) : Int)), (34, int v34)], [(0, .box [str listappend.name, .sl 2 (listappend.edges.map cEdge), int listappend.grain, .sl 2 (listappend.notches.map cNotch), .sl 2 (listappend.corners.map cSpot), .sl 1 (listappend.widths.map cI), boo listappend.match_])], 1⟩
def grade_Graded_S1 (listappend : Piece) (a : Int) (v10 : List Edge) (v53 : Int) : AS := ⟨[(2, .ptr 0 0 0), (9, .fn 27 [int a] []), (10, .own 1 0 v10.length), (51, .sl 2 (listappend.edges.map cEdge)), (52, int ((listappend.edges.length : Nat) : Int)), (53, int v53)], [(1, .row 2 (v10.map cEdge)), (0, .box [str listappend.name, .sl 2 (listappend.edges.map cEdge), int listappend.grain, .sl 2 (listappend.notches.map cNotch), .sl 2 (listappend.corners.map cSpot), .sl 1 (listappend.widths.map cI), boo listappend.match_])], 2⟩
abbrev grade_Graded_V (listappend : Piece) (a : Int) (r0 : List Edge) (r1 : Int) (I0 : Int → Prop) (M0 : Int → Nat) (I1 : (List Edge) → Int → Prop) (M1 : (List Edge) → Int → Nat) : Prop := ((a < (-100) → r0 = ([] : List Edge) ∧ r1 = 3) ∧ (¬ (a < (-100)) → ((a > 100 → r0 = ([] : List Edge) ∧ r1 = 3) ∧ (¬ (a > 100) → ((((listappend.corners.length : Nat) : Int) = ((listappend.edges.length : Nat) : Int) → I0 0) ∧ (¬ (((listappend.corners.length : Nat) : Int) = ((listappend.edges.length : Nat) : Int)) → r0 = ([] : List Edge) ∧ r1 = 1))))))
abbrev grade_Graded_V0 (listappend : Piece) (a : Int) (r0 : List Edge) (r1 : Int) (I0 : Int → Prop) (M0 : Int → Nat) (I1 : (List Edge) → Int → Prop) (M1 : (List Edge) → Int → Nat) (v34 : Int) : Prop := ((v34 < ((listappend.corners.length : Nat) : Int) → (Idx v34 listappend.corners.length) ∧ (∃ (shifted1 : Bool), Ret Tryd.prog XS 26 [.agg [int ((ai listappend.corners v34).x), int ((ai listappend.corners v34).y)]] (boo shifted1) ∧ ((shifted1 = true → (InR (v34 + 1)) ∧ I0 (v34 + 1) ∧ M0 (v34 + 1) < M0 v34) ∧ (shifted1 = false → r0 = ([] : List Edge) ∧ r1 = 3)))) ∧ (¬ (v34 < ((listappend.corners.length : Nat) : Int)) → (∃ (check1 : Int), Ret Tryd.prog XS 19 [.sl 2 (listappend.edges.map cEdge)] (int check1) ∧ ((check1 = 0 → I1 ([] : List Edge) 0) ∧ (¬ (check1 = 0) → r0 = ([] : List Edge) ∧ r1 = check1)))))
abbrev grade_Graded_V1 (listappend : Piece) (a : Int) (r0 : List Edge) (r1 : Int) (I0 : Int → Prop) (M0 : Int → Nat) (I1 : (List Edge) → Int → Prop) (M1 : (List Edge) → Int → Nat) (v10 : List Edge) (v53 : Int) : Prop := ((v53 < ((listappend.edges.length : Nat) : Int) → (Idx v53 listappend.edges.length) ∧ (Idx v53 listappend.corners.length) ∧ (∃ (move1 : Spot), Ret Tryd.prog XS 27 [int a, .agg [int ((ai listappend.corners v53).x), int ((ai listappend.corners v53).y)]] (.agg [int move1.x, int move1.y]) ∧ (InR (v53 + 1)) ∧ (((listappend.corners.length : Nat) : Int) ≠ 0) ∧ (Idx ((v53 + 1).tmod ((listappend.corners.length : Nat) : Int)) listappend.corners.length) ∧ (∃ (move2 : Spot), Ret Tryd.prog XS 27 [int a, .agg [int ((ai listappend.corners ((v53 + 1).tmod ((listappend.corners.length : Nat) : Int))).x), int ((ai listappend.corners ((v53 + 1).tmod ((listappend.corners.length : Nat) : Int))).y)]] (.agg [int move2.x, int move2.y]) ∧ (∃ (along3 : List Spot), Ret Tryd.prog XS 28 [.sl 2 (((ai listappend.edges v53).line).map cSpot), .agg [int move1.x, int move1.y], .agg [int move2.x, int move2.y]] (.fr 2 (along3.map cSpot)) ∧ (Cap 40 (v10 ++ ([(⟨(ai listappend.edges v53).name, along3⟩ : Edge)] : List Edge)).length) ∧ I1 (v10 ++ ([(⟨(ai listappend.edges v53).name, along3⟩ : Edge)] : List Edge)) (v53 + 1) ∧ M1 (v10 ++ ([(⟨(ai listappend.edges v53).name, along3⟩ : Edge)] : List Edge)) (v53 + 1) < M1 v10 v53)))) ∧ (¬ (v53 < ((listappend.edges.length : Nat) : Int)) → (∃ (check1_1 : Int), Ret Tryd.prog XS 19 [.sl 2 (v10.map cEdge)] (int check1_1) ∧ ((check1_1 = 0 → r0 = v10 ∧ r1 = 0) ∧ (¬ (check1_1 = 0) → r0 = ([] : List Edge) ∧ r1 = check1_1)))))
theorem grade_Graded_W1 (listappend : Piece) (a : Int) (r0 : List Edge) (r1 : Int) (I0 : Int → Prop) (M0 : Int → Nat) (I1 : (List Edge) → Int → Prop) (M1 : (List Edge) → Int → Nat) (h0 : ∀ (v34 : Int), I0 v34 → grade_Graded_V0 listappend a r0 r1 I0 M0 I1 M1 v34) (h1 : ∀ (v10 : List Edge) (v53 : Int), I1 v10 v53 → grade_Graded_V1 listappend a r0 r1 I0 M0 I1 M1 v10 v53) : ∀ (x : (List Edge) × Int), I1 x.1 x.2 → loopQ Tryd.prog XS Tryd.f11 1 (.tup [.fr 2 (r0.map cEdge), int r1]) [] (grade_Graded_S1 listappend a x.1 x.2) := by
  intro x0 hx0
  refine loop_rule (fun (x : (List Edge) × Int) => I1 x.1 x.2) (fun (x : (List Edge) × Int) => M1 x.1 x.2) (fun (x : (List Edge) × Int) => grade_Graded_S1 listappend a x.1 x.2) x0 hx0 ?_
  rintro ⟨v10, v53⟩ hx
  have h := h1 v10 v53 hx
  clear hx hx0 x0
  by_cases c1 : v53 < ((listappend.edges.length : Nat) : Int)
  · have h := h.1 c1
    obtain ⟨c2, c3, move1, c4, c5, c6, c7, move2, c8, along3, c9, c10, h⟩ := h
    have g_1 := (abt (dec_t c1))
    have g_2 := (oadd Tryd.prog 3 (wi64 c5))
    have g_3 := (olen cSpot Tryd.prog 24 2 listappend.corners (by kernel_rfl))
    exact sb (ts := [2, 9, 10, 51, 52, 53]) (ids := [7, 0]) (d := 0) (s0 := ⟨[(2, .ptr 0 0 0), (9, .fn 27 [int a] []), (10, .own 7 0 ((v10 ++ ([(⟨(ai listappend.edges v53).name, along3⟩ : Edge)] : List Edge)).length)), (51, .sl 2 (listappend.edges.map cEdge)), (52, int ((listappend.edges.length : Nat) : Int)), (53, int (v53 + 1))], [(7, .row 2 ((v10 ++ ([(⟨(ai listappend.edges v53).name, along3⟩ : Edge)] : List Edge)).map cEdge)), (0, .box [str listappend.name, .sl 2 (listappend.edges.map cEdge), int listappend.grain, .sl 2 (listappend.notches.map cNotch), .sl 2 (listappend.corners.map cSpot), .sl 1 (listappend.widths.map cI), boo listappend.match_])], 8⟩) (ac g_1 (ac (oidx cEdge c2) (ac (oidx cSpot c3) (ac (ocs c4) (ac g_2 (ac g_3 (ac (orem Tryd.prog 3 .i64 (v53 + 1) ((listappend.corners.length : Nat) : Int) c6) (ac (oidx cSpot c7) (ac (ocs c8) (ac (ocs c9) (ac (ofz cSpot along3 (n := (along3.map cSpot).length) (List.length_map ..)) (ac (oappo cEdge (n := v10.length) (m := ([(⟨(ai listappend.edges v53).name, along3⟩ : Edge)] : List Edge).length) rfl rfl c10) g_2)))))))))))) (by kernel_rfl) (by kernel_rfl) rfl ((v10 ++ ([(⟨(ai listappend.edges v53).name, along3⟩ : Edge)] : List Edge)), (v53 + 1)) h.1 h.2 (Weak.anew [(1, some 7), (0, some 0)] (by rfl) (wt_cons rfl (wk_ptr rfl) (wt_cons rfl (wk_fn (wl_cons wk_sc wl_nil) wl_nil) (wt_cons rfl (wk_own rfl rfl) (wt_cons rfl wk_sl (wt_cons rfl wk_sc (wt_cons rfl wk_sc wt_nil)))))) (wm_row rfl rfl (wm_box rfl rfl (wl_cons wk_sc (wl_cons wk_sl (wl_cons wk_sc (wl_cons wk_sl (wl_cons wk_sl (wl_cons wk_sl (wl_cons wk_sc wl_nil))))))) wm_nil)))
  · have h := h.2 c1
    obtain ⟨check1_1, c2, h⟩ := h
    have g_4 := (abf (dec_f c1))
    have e_5 := (ac g_4 (ocl [1] [(1, .row 2 (v10.map cEdge))] [.own 1 0 v10.length] (as_cons (at_row rfl rfl) as_nil) c2))
    by_cases c3 : check1_1 = 0
    · have h := h.1 c3
      have g_6 := (abf (bne_f c3))
      rw [h.1, h.2]
      exact sr (ids := [1]) (vs := [.own 1 0 v10.length, int 0]) (mem := [(1, .row 2 (v10.map cEdge))]) (ac e_5 g_6) (by kernel_rfl) (by kernel_rfl) (rts_own rfl rfl rfl (rts_sc rfl))
    · have h := h.2 c3
      have g_7 := (abt (bne_t c3))
      rw [h.1, h.2]
      exact sr (ids := []) (vs := [.nil, int check1_1]) (mem := []) (ac e_5 g_7) (by kernel_rfl) (by kernel_rfl) (rts_nilfr (rts_sc rfl))
theorem grade_Graded_W0 (listappend : Piece) (a : Int) (r0 : List Edge) (r1 : Int) (I0 : Int → Prop) (M0 : Int → Nat) (I1 : (List Edge) → Int → Prop) (M1 : (List Edge) → Int → Nat) (h0 : ∀ (v34 : Int), I0 v34 → grade_Graded_V0 listappend a r0 r1 I0 M0 I1 M1 v34) (h1 : ∀ (v10 : List Edge) (v53 : Int), I1 v10 v53 → grade_Graded_V1 listappend a r0 r1 I0 M0 I1 M1 v10 v53) : ∀ (x : Int), I0 x → loopQ Tryd.prog XS Tryd.f11 0 (.tup [.fr 2 (r0.map cEdge), int r1]) [] (grade_Graded_S0 listappend a x) := by
  intro x0 hx0
  refine loop_rule (fun (x : Int) => I0 x) (fun (x : Int) => M0 x) (fun (x : Int) => grade_Graded_S0 listappend a x) x0 hx0 ?_
  intro v34 hx
  have h := h0 v34 hx
  clear hx hx0 x0
  by_cases c1 : v34 < ((listappend.corners.length : Nat) : Int)
  · have h := h.1 c1
    obtain ⟨c2, shifted1, c3, h⟩ := h
    have g_8 := (abt (dec_t c1))
    have e_9 := (ac g_8 (ac (oidx cSpot c2) (ocs c3)))
    rcases Bool.eq_false_or_eq_true shifted1 with c4 | c4
    · have h := h.1 c4
      obtain ⟨c5, h⟩ := h
      have g_10 := (oadd Tryd.prog 3 (wi64 c5))
      exact sb (ts := [1, 2, 32, 33, 34]) (ids := [0]) (d := 0) (s0 := ⟨[(1, int a), (2, .ptr 0 0 0), (32, .sl 2 (listappend.corners.map cSpot)), (33, int ((listappend.corners.length : Nat) : Int)), (34, int (v34 + 1))], [(0, .box [str listappend.name, .sl 2 (listappend.edges.map cEdge), int listappend.grain, .sl 2 (listappend.notches.map cNotch), .sl 2 (listappend.corners.map cSpot), .sl 1 (listappend.widths.map cI), boo listappend.match_])], 2⟩) (ac e_9 (ac (abf (not_f c4)) g_10)) (by kernel_rfl) (by kernel_rfl) rfl (v34 + 1) h.1 h.2 (Weak.anew [(0, some 0)] (by rfl) (wt_cons rfl wk_sc (wt_cons rfl (wk_ptr rfl) (wt_cons rfl wk_sl (wt_cons rfl wk_sc (wt_cons rfl wk_sc wt_nil))))) (wm_box rfl rfl (wl_cons wk_sc (wl_cons wk_sl (wl_cons wk_sc (wl_cons wk_sl (wl_cons wk_sl (wl_cons wk_sl (wl_cons wk_sc wl_nil))))))) wm_nil))
    · have h := h.2 c4
      rw [h.1, h.2]
      exact sr (ids := []) (vs := [.nil, int 3]) (mem := []) (ac e_9 (abt (not_t c4))) (by kernel_rfl) (by kernel_rfl) (rts_nilfr (rts_sc rfl))
  · have h := h.2 c1
    obtain ⟨check1, c2, h⟩ := h
    have g_11 := (abf (dec_f c1))
    have e_12 := (ac g_11 (ocs c2))
    by_cases c3 : check1 = 0
    · have h := h.1 c3
      have g_13 := (abf (bne_f c3))
      have g_14 := (olen cEdge Tryd.prog 22 2 listappend.edges (by kernel_rfl))
      exact sl (ts := [2, 9, 10, 51, 52, 53]) (ids := [0]) (d := 1) (s0 := ⟨[(2, .ptr 0 0 0), (9, .fn 27 [int a] []), (10, .nil), (51, .sl 2 (listappend.edges.map cEdge)), (52, int ((listappend.edges.length : Nat) : Int)), (53, int 0)], [(0, .box [str listappend.name, .sl 2 (listappend.edges.map cEdge), int listappend.grain, .sl 2 (listappend.notches.map cNotch), .sl 2 (listappend.corners.map cSpot), .sl 1 (listappend.widths.map cI), boo listappend.match_])], 1⟩) (ac e_12 (ac g_13 g_14)) (by kernel_rfl) (by kernel_rfl) (Weak.anew [(1, none), (0, some 0)] (by rfl) (wt_cons rfl (wk_ptr rfl) (wt_cons rfl (wk_fn (wl_cons wk_sc wl_nil) wl_nil) (wt_cons rfl (wk_nilown rfl) (wt_cons rfl wk_sl (wt_cons rfl wk_sc (wt_cons rfl wk_sc wt_nil)))))) (wm_none rfl (wm_box rfl rfl (wl_cons wk_sc (wl_cons wk_sl (wl_cons wk_sc (wl_cons wk_sl (wl_cons wk_sl (wl_cons wk_sl (wl_cons wk_sc wl_nil))))))) wm_nil))) (grade_Graded_W1 listappend a r0 r1 I0 M0 I1 M1 h0 h1 (([] : List Edge), 0) h)
    · have h := h.2 c3
      have g_15 := (abt (bne_t c3))
      rw [h.1, h.2]
      exact sr (ids := []) (vs := [.nil, int check1]) (mem := []) (ac e_12 g_15) (by kernel_rfl) (by kernel_rfl) (rts_nilfr (rts_sc rfl))
theorem grade_Graded_W (listappend : Piece) (a : Int) (r0 : List Edge) (r1 : Int) (I0 : Int → Prop) (M0 : Int → Nat) (I1 : (List Edge) → Int → Prop) (M1 : (List Edge) → Int → Nat) (h : grade_Graded_V listappend a r0 r1 I0 M0 I1 M1) (h0 : ∀ (v34 : Int), I0 v34 → grade_Graded_V0 listappend a r0 r1 I0 M0 I1 M1 v34) (h1 : ∀ (v10 : List Edge) (v53 : Int), I1 v10 v53 → grade_Graded_V1 listappend a r0 r1 I0 M0 I1 M1 v10 v53) : Ret Tryd.prog XS 11 [.agg [str listappend.name, .sl 2 (listappend.edges.map cEdge), int listappend.grain, .sl 2 (listappend.notches.map cNotch), .sl 2 (listappend.corners.map cSpot), .sl 1 (listappend.widths.map cI), boo listappend.match_], int a] (.tup [.fr 2 (r0.map cEdge), int r1]) := by
  refine fn_rule Tryd.func11 (by kernel_rfl) (by kernel_rfl) (by kernel_rfl) (by kernel_rfl) ?_
  by_cases c1 : a < (-100)
  · have h := h.1 c1
    have g_16 := (abt (dec_t c1))
    rw [h.1, h.2]
    exact sr (ids := []) (vs := [.nil, int 3]) (mem := []) (ac g_16 (ac g_16 (ac g_16 abtt))) (by kernel_rfl) (by kernel_rfl) (rts_nilfr (rts_sc rfl))
  · have h := h.2 c1
    have g_17 := (abf (dec_f c1))
    have e_18 := (ac g_17 (ac g_17 g_17))
    by_cases c2 : a > 100
    · have h := h.1 c2
      rw [h.1, h.2]
      exact sr (ids := []) (vs := [.nil, int 3]) (mem := []) (ac e_18 (abt (dec_t c2))) (by kernel_rfl) (by kernel_rfl) (rts_nilfr (rts_sc rfl))
    · have h := h.2 c2
      have g_19 := (olen cSpot Tryd.prog 24 2 listappend.corners (by kernel_rfl))
      have g_20 := (olen cEdge Tryd.prog 22 2 listappend.edges (by kernel_rfl))
      have e_21 := (ac (abf (dec_f c2)) (ac g_19 g_20))
      by_cases c3 : ((listappend.corners.length : Nat) : Int) = ((listappend.edges.length : Nat) : Int)
      · have h := h.1 c3
        have g_22 := (abf (bne_f c3))
        exact sl (ts := [1, 2, 32, 33, 34]) (ids := [0]) (d := 0) (s0 := ⟨[(1, int a), (2, .ptr 0 0 0), (32, .sl 2 (listappend.corners.map cSpot)), (33, int ((listappend.corners.length : Nat) : Int)), (34, int 0)], [(0, .box [str listappend.name, .sl 2 (listappend.edges.map cEdge), int listappend.grain, .sl 2 (listappend.notches.map cNotch), .sl 2 (listappend.corners.map cSpot), .sl 1 (listappend.widths.map cI), boo listappend.match_])], 1⟩) (ac e_18 (ac e_21 (ac g_22 g_19))) (by kernel_rfl) (by kernel_rfl) (Weak.anew [(0, some 0)] (by rfl) (wt_cons rfl wk_sc (wt_cons rfl (wk_ptr rfl) (wt_cons rfl wk_sl (wt_cons rfl wk_sc (wt_cons rfl wk_sc wt_nil))))) (wm_box rfl rfl (wl_cons wk_sc (wl_cons wk_sl (wl_cons wk_sc (wl_cons wk_sl (wl_cons wk_sl (wl_cons wk_sl (wl_cons wk_sc wl_nil))))))) wm_nil)) (grade_Graded_W0 listappend a r0 r1 I0 M0 I1 M1 h0 h1 0 h)
      · have h := h.2 c3
        have g_23 := (abt (bne_t c3))
        rw [h.1, h.2]
        exact sr (ids := []) (vs := [.nil, int 1]) (mem := []) (ac e_18 (ac e_21 g_23)) (by kernel_rfl) (by kernel_rfl) (rts_nilfr (rts_sc rfl))

end Go.Ab
end

section
namespace Go.Ab
open Go.Proofs
set_option maxRecDepth 100000
set_option linter.unusedVariables false
attribute [local irreducible] todoQ
-- garmentref21.SameEdges
def garmentref21_SameEdges_S0 (a : List Edge) (b : List Edge) (i5 : Int) : AS := ⟨[(0, .sl 2 (a.map cEdge)), (1, .sl 2 (b.map cEdge)), (5, int i5)], [], 0⟩
abbrev garmentref21_SameEdges_V (a : List Edge) (b : List Edge) (r0 : Bool) (I0 : Int → Prop) (M0 : Int → Nat) : Prop := ((((a.length : Nat) : Int) = ((b.length : Nat) : Int) → I0 0) ∧ (¬ (((a.length : Nat) : Int) = ((b.length : Nat) : Int)) → r0 = false))
abbrev garmentref21_SameEdges_V0 (a : List Edge) (b : List Edge) (r0 : Bool) (I0 : Int → Prop) (M0 : Int → Nat) (i5 : Int) : Prop := ((i5 < ((a.length : Nat) : Int) → (Idx i5 a.length) ∧ (Idx i5 b.length) ∧ (((ai a i5).name = (ai b i5).name → (∃ (same1 : Bool), Ret Tryd.prog XS 17 [.sl 2 (((ai a i5).line).map cSpot), .sl 2 (((ai b i5).line).map cSpot)] (boo same1) ∧ ((same1 = true → (InR (i5 + 1)) ∧ I0 (i5 + 1) ∧ M0 (i5 + 1) < M0 i5) ∧ (same1 = false → r0 = false)))) ∧ (¬ ((ai a i5).name = (ai b i5).name) → r0 = false))) ∧ (¬ (i5 < ((a.length : Nat) : Int)) → r0 = true))
theorem garmentref21_SameEdges_W0 (a : List Edge) (b : List Edge) (r0 : Bool) (I0 : Int → Prop) (M0 : Int → Nat) (h0 : ∀ (i5 : Int), I0 i5 → garmentref21_SameEdges_V0 a b r0 I0 M0 i5) : ∀ (x : Int), I0 x → loopQ Tryd.prog XS Tryd.f13 0 (boo r0) [] (garmentref21_SameEdges_S0 a b x) := by
  intro x0 hx0
  refine loop_rule (fun (x : Int) => I0 x) (fun (x : Int) => M0 x) (fun (x : Int) => garmentref21_SameEdges_S0 a b x) x0 hx0 ?_
  intro i5 hx
  have h := h0 i5 hx
  clear hx hx0 x0
  have g_1 := (olen cEdge Tryd.prog 22 2 a (by kernel_rfl))
  by_cases c1 : i5 < ((a.length : Nat) : Int)
  · have h := h.1 c1
    obtain ⟨c2, c3, h⟩ := h
    have g_2 := (oidx cEdge c2)
    have g_3 := (oidx cEdge c3)
    have e_4 := (ac (abt (dec_t c1)) (ac g_2 g_3))
    by_cases c4 : (ai a i5).name = (ai b i5).name
    · have h := h.1 c4
      obtain ⟨same1, c5, h⟩ := h
      have g_5 := (abf (not_f (streq_t c4)))
      have e_6 := (ac g_5 (ac g_5 (ac g_5 (ac g_2 (ac g_5 (ac g_5 (ac g_5 (ac g_5 (ac g_5 (ac g_3 (ac g_5 (ac g_5 (ac g_5 (ac (ocs c5) (ac g_5 g_5)))))))))))))))
      rcases Bool.eq_false_or_eq_true same1 with c6 | c6
      · have h := h.1 c6
        obtain ⟨c7, h⟩ := h
        exact sb (ts := [0, 1, 5]) (ids := []) (d := 0) (s0 := ⟨[(0, .sl 2 (a.map cEdge)), (1, .sl 2 (b.map cEdge)), (5, int (i5 + 1))], [], 0⟩) (ac g_1 (ac e_4 (ac e_6 (ac (abf (not_f c6)) (oadd Tryd.prog 3 (wi64 c7)))))) (by kernel_rfl) (by kernel_rfl) rfl (i5 + 1) h.1 h.2 (Weak.anew [] (by rfl) (wt_cons rfl wk_sl (wt_cons rfl wk_sl (wt_cons rfl wk_sc wt_nil))) wm_nil)
      · have h := h.2 c6
        rw [h]
        exact sr (ids := []) (vs := [boo false]) (mem := []) (ac g_1 (ac e_4 (ac e_6 (abt (not_t c6))))) (by kernel_rfl) (by kernel_rfl) (rts_sc rfl)
    · have h := h.2 c4
      have g_7 := (abt (not_t (streq_f c4)))
      rw [h]
      exact sr (ids := []) (vs := [boo false]) (mem := []) (ac g_1 (ac e_4 (ac g_7 (ac g_7 (ac g_7 (ac g_7 (ac g_7 (ac g_7 (ac g_7 (ac g_7 (ac g_7 (ac g_7 (ac g_7 (ac g_7 (ac g_7 abtt))))))))))))))) (by kernel_rfl) (by kernel_rfl) (rts_sc rfl)
  · have h := h.2 c1
    rw [h]
    exact sr (ids := []) (vs := [boo true]) (mem := []) (ac g_1 (abf (dec_f c1))) (by kernel_rfl) (by kernel_rfl) (rts_sc rfl)
theorem garmentref21_SameEdges_W (a : List Edge) (b : List Edge) (r0 : Bool) (I0 : Int → Prop) (M0 : Int → Nat) (h : garmentref21_SameEdges_V a b r0 I0 M0) (h0 : ∀ (i5 : Int), I0 i5 → garmentref21_SameEdges_V0 a b r0 I0 M0 i5) : Ret Tryd.prog XS 13 [.sl 2 (a.map cEdge), .sl 2 (b.map cEdge)] (boo r0) := by
  refine fn_rule Tryd.func13 (by kernel_rfl) (by kernel_rfl) (by kernel_rfl) (by kernel_rfl) ?_
  have g_8 := (olen cEdge Tryd.prog 22 2 a (by kernel_rfl))
  have e_9 := (ac g_8 (olen cEdge Tryd.prog 22 2 b (by kernel_rfl)))
  by_cases c1 : ((a.length : Nat) : Int) = ((b.length : Nat) : Int)
  · have h := h.1 c1
    exact sl (ts := [0, 1, 5]) (ids := []) (d := 0) (s0 := ⟨[(0, .sl 2 (a.map cEdge)), (1, .sl 2 (b.map cEdge)), (5, int 0)], [], 0⟩) (ac e_9 (abf (bne_f c1))) (by kernel_rfl) (by kernel_rfl) (Weak.anew [] (by rfl) (wt_cons rfl wk_sl (wt_cons rfl wk_sl (wt_cons rfl wk_sc wt_nil))) wm_nil) (garmentref21_SameEdges_W0 a b r0 I0 M0 h0 0 h)
  · have h := h.2 c1
    rw [h]
    exact sr (ids := []) (vs := [boo false]) (mem := []) (ac e_9 (abt (bne_t c1))) (by kernel_rfl) (by kernel_rfl) (rts_sc rfl)

-- outline.Turned
-- grade.Areas
-- garmentref21.SameInts
-- garmentref11.Same
def garmentref11_Same_S0 (a : List Spot) (b : List Spot) (i5 : Int) : AS := ⟨[(0, .sl 2 (a.map cSpot)), (1, .sl 2 (b.map cSpot)), (5, int i5)], [], 0⟩
abbrev garmentref11_Same_V (a : List Spot) (b : List Spot) (r0 : Bool) (I0 : Int → Prop) (M0 : Int → Nat) : Prop := ((((a.length : Nat) : Int) = ((b.length : Nat) : Int) → I0 0) ∧ (¬ (((a.length : Nat) : Int) = ((b.length : Nat) : Int)) → r0 = false))
abbrev garmentref11_Same_V0 (a : List Spot) (b : List Spot) (r0 : Bool) (I0 : Int → Prop) (M0 : Int → Nat) (i5 : Int) : Prop := ((i5 < ((a.length : Nat) : Int) → (Idx i5 a.length) ∧ (Idx i5 b.length) ∧ (((ai a i5) = (ai b i5) → (InR (i5 + 1)) ∧ I0 (i5 + 1) ∧ M0 (i5 + 1) < M0 i5) ∧ (¬ ((ai a i5) = (ai b i5)) → r0 = false))) ∧ (¬ (i5 < ((a.length : Nat) : Int)) → r0 = true))
theorem garmentref11_Same_W0 (a : List Spot) (b : List Spot) (r0 : Bool) (I0 : Int → Prop) (M0 : Int → Nat) (h0 : ∀ (i5 : Int), I0 i5 → garmentref11_Same_V0 a b r0 I0 M0 i5) : ∀ (x : Int), I0 x → loopQ Tryd.prog XS Tryd.f17 0 (boo r0) [] (garmentref11_Same_S0 a b x) := by
  intro x0 hx0
  refine loop_rule (fun (x : Int) => I0 x) (fun (x : Int) => M0 x) (fun (x : Int) => garmentref11_Same_S0 a b x) x0 hx0 ?_
  intro i5 hx
  have h := h0 i5 hx
  clear hx hx0 x0
  have g_1 := (olen cSpot Tryd.prog 24 2 a (by kernel_rfl))
  by_cases c1 : i5 < ((a.length : Nat) : Int)
  · have h := h.1 c1
    obtain ⟨c2, c3, h⟩ := h
    have e_2 := (ac (abt (dec_t c1)) (ac (oidx cSpot c2) (oidx cSpot c3)))
    by_cases c4 : (ai a i5) = (ai b i5)
    · have h := h.1 c4
      obtain ⟨c5, h⟩ := h
      exact sb (ts := [0, 1, 5]) (ids := []) (d := 0) (s0 := ⟨[(0, .sl 2 (a.map cSpot)), (1, .sl 2 (b.map cSpot)), (5, int (i5 + 1))], [], 0⟩) (ac g_1 (ac e_2 (ac (abf (not_f (sSpot_t c4))) (oadd Tryd.prog 3 (wi64 c5))))) (by kernel_rfl) (by kernel_rfl) rfl (i5 + 1) h.1 h.2 (Weak.anew [] (by rfl) (wt_cons rfl wk_sl (wt_cons rfl wk_sl (wt_cons rfl wk_sc wt_nil))) wm_nil)
    · have h := h.2 c4
      rw [h]
      exact sr (ids := []) (vs := [boo false]) (mem := []) (ac g_1 (ac e_2 (abt (not_t (sSpot_f c4))))) (by kernel_rfl) (by kernel_rfl) (rts_sc rfl)
  · have h := h.2 c1
    rw [h]
    exact sr (ids := []) (vs := [boo true]) (mem := []) (ac g_1 (abf (dec_f c1))) (by kernel_rfl) (by kernel_rfl) (rts_sc rfl)
theorem garmentref11_Same_W (a : List Spot) (b : List Spot) (r0 : Bool) (I0 : Int → Prop) (M0 : Int → Nat) (h : garmentref11_Same_V a b r0 I0 M0) (h0 : ∀ (i5 : Int), I0 i5 → garmentref11_Same_V0 a b r0 I0 M0 i5) : Ret Tryd.prog XS 17 [.sl 2 (a.map cSpot), .sl 2 (b.map cSpot)] (boo r0) := by
  refine fn_rule Tryd.func17 (by kernel_rfl) (by kernel_rfl) (by kernel_rfl) (by kernel_rfl) ?_
  have g_3 := (olen cSpot Tryd.prog 24 2 a (by kernel_rfl))
  have e_4 := (ac g_3 (olen cSpot Tryd.prog 24 2 b (by kernel_rfl)))
  by_cases c1 : ((a.length : Nat) : Int) = ((b.length : Nat) : Int)
  · have h := h.1 c1
    exact sl (ts := [0, 1, 5]) (ids := []) (d := 0) (s0 := ⟨[(0, .sl 2 (a.map cSpot)), (1, .sl 2 (b.map cSpot)), (5, int 0)], [], 0⟩) (ac e_4 (abf (bne_f c1))) (by kernel_rfl) (by kernel_rfl) (Weak.anew [] (by rfl) (wt_cons rfl wk_sl (wt_cons rfl wk_sl (wt_cons rfl wk_sc wt_nil))) wm_nil) (garmentref11_Same_W0 a b r0 I0 M0 h0 0 h)
  · have h := h.2 c1
    rw [h]
    exact sr (ids := []) (vs := [boo false]) (mem := []) (ac e_4 (abt (bne_t c1))) (by kernel_rfl) (by kernel_rfl) (rts_sc rfl)

-- polyline.Move
def polyline_Move_S0 (l : List Spot) (d : Spot) (v13 : Int) (w5 : List Spot) : AS := ⟨[(3, .ptr 0 0 0), (5, .own 1 0 w5.length), (11, .sl 2 (l.map cSpot)), (12, int ((l.length : Nat) : Int)), (13, int v13)], [(0, .box [int d.x, int d.y]), (1, .row 2 (w5.map cSpot))], 2⟩
abbrev polyline_Move_V (l : List Spot) (d : Spot) (r0 : List Spot) (I0 : Int → (List Spot) → Prop) (M0 : Int → (List Spot) → Nat) : Prop := (0 ≤ ((l.length : Nat) : Int)) ∧ (((l.length : Nat) : Int) * 16 ≤ 140737488355328) ∧ (((l.length : Nat) : Int) ≤ 9223372036854775807) ∧ I0 0 (List.replicate (((l.length : Nat) : Int) : Int).toNat (⟨0, 0⟩ : Spot))
abbrev polyline_Move_V0 (l : List Spot) (d : Spot) (r0 : List Spot) (I0 : Int → (List Spot) → Prop) (M0 : Int → (List Spot) → Nat) (v13 : Int) (w5 : List Spot) : Prop := ((v13 < ((l.length : Nat) : Int) → (Idx v13 l.length) ∧ (Idx v13 w5.length) ∧ (InR (v13 + 1)) ∧ I0 (v13 + 1) (w5.set (v13 : Int).toNat (⟨(IntKind.wrap .i64 ((ai l v13).x + d.x)), (IntKind.wrap .i64 ((ai l v13).y + d.y))⟩ : Spot)) ∧ M0 (v13 + 1) (w5.set (v13 : Int).toNat (⟨(IntKind.wrap .i64 ((ai l v13).x + d.x)), (IntKind.wrap .i64 ((ai l v13).y + d.y))⟩ : Spot)) < M0 v13 w5) ∧ (¬ (v13 < ((l.length : Nat) : Int)) → r0 = w5))
theorem polyline_Move_W0 (l : List Spot) (d : Spot) (r0 : List Spot) (I0 : Int → (List Spot) → Prop) (M0 : Int → (List Spot) → Nat) (h0 : ∀ (v13 : Int) (w5 : List Spot), I0 v13 w5 → polyline_Move_V0 l d r0 I0 M0 v13 w5) : ∀ (x : Int × (List Spot)), I0 x.1 x.2 → loopQ Tryd.prog XS Tryd.f18 0 (.fr 2 (r0.map cSpot)) [] (polyline_Move_S0 l d x.1 x.2) := by
  intro x0 hx0
  refine loop_rule (fun (x : Int × (List Spot)) => I0 x.1 x.2) (fun (x : Int × (List Spot)) => M0 x.1 x.2) (fun (x : Int × (List Spot)) => polyline_Move_S0 l d x.1 x.2) x0 hx0 ?_
  rintro ⟨v13, w5⟩ hx
  have h := h0 v13 w5 hx
  clear hx hx0 x0
  by_cases c1 : v13 < ((l.length : Nat) : Int)
  · have h := h.1 c1
    obtain ⟨c2, c3, c4, h⟩ := h
    exact sb (ts := [3, 5, 11, 12, 13]) (ids := [0, 1]) (d := 0) (s0 := ⟨[(3, .ptr 0 0 0), (5, .own 1 0 w5.length), (11, .sl 2 (l.map cSpot)), (12, int ((l.length : Nat) : Int)), (13, int (v13 + 1))], [(0, .box [int d.x, int d.y]), (1, .row 2 ((w5.set (v13 : Int).toNat (⟨(IntKind.wrap .i64 ((ai l v13).x + d.x)), (IntKind.wrap .i64 ((ai l v13).y + d.y))⟩ : Spot)).map cSpot))], 3⟩) (ac (abt (dec_t c1)) (ac (oidx cSpot c2) (ac (oaddw Tryd.prog 3 .i64 ((ai l v13).x) d.x) (ac (oaddw Tryd.prog 3 .i64 ((ai l v13).y) d.y) (ac (oown cSpot (n := w5.length) rfl c3) (ac (oset cSpot (⟨(IntKind.wrap .i64 ((ai l v13).x + d.x)), (IntKind.wrap .i64 ((ai l v13).y + d.y))⟩ : Spot) c3) (oadd Tryd.prog 3 (wi64 c4)))))))) (by kernel_rfl) (by kernel_rfl) rfl ((v13 + 1), (w5.set (v13 : Int).toNat (⟨(IntKind.wrap .i64 ((ai l v13).x + d.x)), (IntKind.wrap .i64 ((ai l v13).y + d.y))⟩ : Spot))) h.1 h.2 (Weak.anew [(0, some 0), (1, some 1)] (by rfl) (wt_cons rfl (wk_ptr rfl) (wt_cons rfl (wk_own rfl (by simp)) (wt_cons rfl wk_sl (wt_cons rfl wk_sc (wt_cons rfl wk_sc wt_nil))))) (wm_box rfl rfl (wl_cons wk_sc (wl_cons wk_sc wl_nil)) (wm_row rfl rfl wm_nil)))
  · have h := h.2 c1
    rw [h]
    exact sr (ids := [1]) (vs := [.own 1 0 w5.length]) (mem := [(1, .row 2 (w5.map cSpot))]) (abf (dec_f c1)) (by kernel_rfl) (by kernel_rfl) (rts_own rfl rfl rfl rfl)
theorem polyline_Move_W (l : List Spot) (d : Spot) (r0 : List Spot) (I0 : Int → (List Spot) → Prop) (M0 : Int → (List Spot) → Nat) (h : polyline_Move_V l d r0 I0 M0) (h0 : ∀ (v13 : Int) (w5 : List Spot), I0 v13 w5 → polyline_Move_V0 l d r0 I0 M0 v13 w5) : Ret Tryd.prog XS 18 [.sl 2 (l.map cSpot), .agg [int d.x, int d.y]] (.fr 2 (r0.map cSpot)) := by
  refine fn_rule Tryd.func18 (by kernel_rfl) (by kernel_rfl) (by kernel_rfl) (by kernel_rfl) ?_
  obtain ⟨c1, c2, c3, h⟩ := h
  have g_1 := (olen cSpot Tryd.prog 24 2 l (by kernel_rfl))
  exact sl (ts := [3, 5, 11, 12, 13]) (ids := [0, 1]) (d := 0) (s0 := ⟨[(3, .ptr 0 0 0), (5, .own 1 0 ((List.replicate (((l.length : Nat) : Int) : Int).toNat (⟨0, 0⟩ : Spot)).length)), (11, .sl 2 (l.map cSpot)), (12, int ((l.length : Nat) : Int)), (13, int 0)], [(0, .box [int d.x, int d.y]), (1, .row 2 ((List.replicate (((l.length : Nat) : Int) : Int).toNat (⟨0, 0⟩ : Spot)).map cSpot))], 2⟩) (ac g_1 (ac (omake cSpot (v := (⟨0, 0⟩ : Spot)) (z := [int 0, int 0]) (l := ((l.length : Nat) : Int)) (b := 16) rfl c1 c2 c3) g_1)) (by kernel_rfl) (by kernel_rfl) (Weak.anew [(0, some 0), (1, some 1)] (by rfl) (wt_cons rfl (wk_ptr rfl) (wt_cons rfl (wk_own rfl rfl) (wt_cons rfl wk_sl (wt_cons rfl wk_sc (wt_cons rfl wk_sc wt_nil))))) (wm_box rfl rfl (wl_cons wk_sc (wl_cons wk_sc wl_nil)) (wm_row rfl rfl wm_nil))) (polyline_Move_W0 l d r0 I0 M0 h0 (0, (List.replicate (((l.length : Nat) : Int) : Int).toNat (⟨0, 0⟩ : Spot))) h)

end Go.Ab
end

section
namespace Go.Ab
open Go.Proofs
set_option maxRecDepth 100000
set_option linter.unusedVariables false
attribute [local irreducible] todoQ
-- outline.Check
def outline_Check_S0 (l : List Edge) (end4 : List Spot) (v27 : Int) : AS := ⟨[(0, .sl 2 (l.map cEdge)), (4, .sl 2 (end4.map cSpot)), (25, .sl 2 (l.map cEdge)), (26, int ((l.length : Nat) : Int)), (27, int v27)], [], 0⟩
abbrev outline_Check_V (l : List Edge) (r0 : Int) (I0 : (List Spot) → Int → Prop) (M0 : (List Spot) → Int → Nat) : Prop := ((((l.length : Nat) : Int) > 16 → r0 = 5) ∧ (¬ (((l.length : Nat) : Int) > 16) → ((((l.length : Nat) : Int) < 2 → r0 = 11) ∧ (¬ (((l.length : Nat) : Int) < 2) → (∃ (edges1 : Int), Ret Tryd.prog XS 35 [.sl 2 (l.map cEdge)] (int edges1) ∧ ((edges1 = 0 → (InR (((l.length : Nat) : Int) - 1)) ∧ (Idx (((l.length : Nat) : Int) - 1) l.length) ∧ I0 ((ai l (((l.length : Nat) : Int) - 1)).line) 0) ∧ (¬ (edges1 = 0) → r0 = edges1)))))))
abbrev outline_Check_V0 (l : List Edge) (r0 : Int) (I0 : (List Spot) → Int → Prop) (M0 : (List Spot) → Int → Nat) (end4 : List Spot) (v27 : Int) : Prop := ((v27 < ((l.length : Nat) : Int) → (Idx v27 l.length) ∧ (InR (((end4.length : Nat) : Int) - 1)) ∧ (Idx (((end4.length : Nat) : Int) - 1) end4.length) ∧ (Idx 0 ((ai l v27).line).length) ∧ (((ai end4 (((end4.length : Nat) : Int) - 1)) = (ai ((ai l v27).line) 0) → (InR (v27 + 1)) ∧ I0 ((ai l v27).line) (v27 + 1) ∧ M0 ((ai l v27).line) (v27 + 1) < M0 end4 v27) ∧ (¬ ((ai end4 (((end4.length : Nat) : Int) - 1)) = (ai ((ai l v27).line) 0)) → r0 = 11))) ∧ (¬ (v27 < ((l.length : Nat) : Int)) → (∃ (vertices1 : List Spot), Ret Tryd.prog XS 37 [.sl 2 (l.map cEdge)] (.fr 2 (vertices1.map cSpot)) ∧ (∃ (check2 : Int), Ret Tryd.prog XS 36 [.sl 2 (vertices1.map cSpot)] (int check2) ∧ r0 = check2))))
theorem outline_Check_W0 (l : List Edge) (r0 : Int) (I0 : (List Spot) → Int → Prop) (M0 : (List Spot) → Int → Nat) (h0 : ∀ (end4 : List Spot) (v27 : Int), I0 end4 v27 → outline_Check_V0 l r0 I0 M0 end4 v27) : ∀ (x : (List Spot) × Int), I0 x.1 x.2 → loopQ Tryd.prog XS Tryd.f19 0 (int r0) [] (outline_Check_S0 l x.1 x.2) := by
  intro x0 hx0
  refine loop_rule (fun (x : (List Spot) × Int) => I0 x.1 x.2) (fun (x : (List Spot) × Int) => M0 x.1 x.2) (fun (x : (List Spot) × Int) => outline_Check_S0 l x.1 x.2) x0 hx0 ?_
  rintro ⟨end4, v27⟩ hx
  have h := h0 end4 v27 hx
  clear hx hx0 x0
  by_cases c1 : v27 < ((l.length : Nat) : Int)
  · have h := h.1 c1
    obtain ⟨c2, c3, c4, c5, h⟩ := h
    have g_1 := (abt (dec_t c1))
    have e_2 := (ac g_1 (ac (oidx cEdge c2) (ac (olen cSpot Tryd.prog 24 2 end4 (by kernel_rfl)) (ac (osub Tryd.prog 3 (wi64 c3)) (ac (oidx cSpot c4) (oidx cSpot c5))))))
    by_cases c6 : (ai end4 (((end4.length : Nat) : Int) - 1)) = (ai ((ai l v27).line) 0)
    · have h := h.1 c6
      obtain ⟨c7, h⟩ := h
      exact sb (ts := [0, 4, 25, 26, 27]) (ids := []) (d := 0) (s0 := ⟨[(0, .sl 2 (l.map cEdge)), (4, .sl 2 (((ai l v27).line).map cSpot)), (25, .sl 2 (l.map cEdge)), (26, int ((l.length : Nat) : Int)), (27, int (v27 + 1))], [], 1⟩) (ac e_2 (ac (abf (not_f (sSpot_t c6))) (oadd Tryd.prog 3 (wi64 c7)))) (by kernel_rfl) (by kernel_rfl) rfl ((ai l v27).line, (v27 + 1)) h.1 h.2 (Weak.anew [] (by rfl) (wt_cons rfl wk_sl (wt_cons rfl wk_sl (wt_cons rfl wk_sl (wt_cons rfl wk_sc (wt_cons rfl wk_sc wt_nil))))) wm_nil)
    · have h := h.2 c6
      rw [h]
      exact sr (ids := []) (vs := [int 11]) (mem := []) (ac e_2 (abt (not_t (sSpot_f c6)))) (by kernel_rfl) (by kernel_rfl) (rts_sc rfl)
  · have h := h.2 c1
    obtain ⟨vertices1, c2, check2, c3, h⟩ := h
    have g_3 := (abf (dec_f c1))
    rw [h]
    exact sr (ids := []) (vs := [int check2]) (mem := []) (ac g_3 (ac (ocs c2) (ocl [0] [(0, .row 2 (vertices1.map cSpot))] [.own 0 0 ((vertices1.map cSpot).length)] (as_cons (at_row (List.length_map ..) rfl) as_nil) c3))) (by kernel_rfl) (by kernel_rfl) (rts_sc rfl)
theorem outline_Check_W (l : List Edge) (r0 : Int) (I0 : (List Spot) → Int → Prop) (M0 : (List Spot) → Int → Nat) (h : outline_Check_V l r0 I0 M0) (h0 : ∀ (end4 : List Spot) (v27 : Int), I0 end4 v27 → outline_Check_V0 l r0 I0 M0 end4 v27) : Ret Tryd.prog XS 19 [.sl 2 (l.map cEdge)] (int r0) := by
  refine fn_rule Tryd.func19 (by kernel_rfl) (by kernel_rfl) (by kernel_rfl) (by kernel_rfl) ?_
  have g_4 := (olen cEdge Tryd.prog 22 2 l (by kernel_rfl))
  by_cases c1 : ((l.length : Nat) : Int) > 16
  · have h := h.1 c1
    have g_5 := (abt (dec_t c1))
    rw [h]
    exact sr (ids := []) (vs := [int 5]) (mem := []) (ac g_4 g_5) (by kernel_rfl) (by kernel_rfl) (rts_sc rfl)
  · have h := h.2 c1
    have g_6 := (abf (dec_f c1))
    have e_7 := (ac g_6 g_4)
    by_cases c2 : ((l.length : Nat) : Int) < 2
    · have h := h.1 c2
      rw [h]
      exact sr (ids := []) (vs := [int 11]) (mem := []) (ac g_4 (ac e_7 (abt (dec_t c2)))) (by kernel_rfl) (by kernel_rfl) (rts_sc rfl)
    · have h := h.2 c2
      obtain ⟨edges1, c3, h⟩ := h
      have e_8 := (ac (abf (dec_f c2)) (ocs c3))
      by_cases c4 : edges1 = 0
      · have h := h.1 c4
        obtain ⟨c5, c6, h⟩ := h
        exact sl (ts := [0, 4, 25, 26, 27]) (ids := []) (d := 0) (s0 := ⟨[(0, .sl 2 (l.map cEdge)), (4, .sl 2 (((ai l (((l.length : Nat) : Int) - 1)).line).map cSpot)), (25, .sl 2 (l.map cEdge)), (26, int ((l.length : Nat) : Int)), (27, int 0)], [], 0⟩) (ac g_4 (ac e_7 (ac e_8 (ac (abf (bne_f c4)) (ac g_4 (ac (osub Tryd.prog 3 (wi64 c5)) (ac (oidx cEdge c6) g_4))))))) (by kernel_rfl) (by kernel_rfl) (Weak.anew [] (by rfl) (wt_cons rfl wk_sl (wt_cons rfl wk_sl (wt_cons rfl wk_sl (wt_cons rfl wk_sc (wt_cons rfl wk_sc wt_nil))))) wm_nil) (outline_Check_W0 l r0 I0 M0 h0 ((ai l (((l.length : Nat) : Int) - 1)).line, 0) h)
      · have h := h.2 c4
        rw [h]
        exact sr (ids := []) (vs := [int edges1]) (mem := []) (ac g_4 (ac e_7 (ac e_8 (abt (bne_t c4))))) (by kernel_rfl) (by kernel_rfl) (rts_sc rfl)

-- polyline.Length
-- garmentref21.Same
-- turn.Compose
-- turn.Inverse
-- grade.shifted
abbrev grade_shifted_V (s0 : Spot) (r0 : Bool) : Prop := ((s0.x ≥ (-1000) → ((s0.x ≤ 1000 → ((s0.y ≥ (-1000) → r0 = (decide (s0.y ≤ 1000))) ∧ (¬ (s0.y ≥ (-1000)) → r0 = false))) ∧ (¬ (s0.x ≤ 1000) → r0 = false))) ∧ (¬ (s0.x ≥ (-1000)) → r0 = false))
theorem grade_shifted_W (s0 : Spot) (r0 : Bool) (h : grade_shifted_V s0 r0) : Ret Tryd.prog XS 26 [.agg [int s0.x, int s0.y]] (boo r0) := by
  refine fn_rule Tryd.func26 (by kernel_rfl) (by kernel_rfl) (by kernel_rfl) (by kernel_rfl) ?_
  by_cases c1 : s0.x ≥ (-1000)
  · have h := h.1 c1
    have g_1 := (abt (dec_t c1))
    have e_2 := (ac g_1 (ac g_1 (ac g_1 g_1)))
    by_cases c2 : s0.x ≤ 1000
    · have h := h.1 c2
      have g_3 := (abt (dec_t c2))
      have e_4 := (ac g_3 (ac g_3 (ac g_3 g_3)))
      by_cases c3 : s0.y ≥ (-1000)
      · have h := h.1 c3
        have g_5 := (abt (dec_t c3))
        rw [h]
        exact sr (ids := []) (vs := [boo (decide (s0.y ≤ 1000))]) (mem := []) (ac e_2 (ac e_4 (ac g_5 (ac g_5 (ac g_5 g_5))))) (by kernel_rfl) (by kernel_rfl) (rts_sc rfl)
      · have h := h.2 c3
        have g_6 := (abf (dec_f c3))
        rw [h]
        exact sr (ids := []) (vs := [boo false]) (mem := []) (ac e_2 (ac e_4 (ac g_6 (ac g_6 (ac g_6 g_6))))) (by kernel_rfl) (by kernel_rfl) (rts_sc rfl)
    · have h := h.2 c2
      have g_7 := (abf (dec_f c2))
      rw [h]
      exact sr (ids := []) (vs := [boo false]) (mem := []) (ac e_2 (ac g_7 (ac g_7 (ac g_7 (ac g_7 (ac abff (ac abff (ac abff abff)))))))) (by kernel_rfl) (by kernel_rfl) (rts_sc rfl)
  · have h := h.2 c1
    have g_8 := (abf (dec_f c1))
    rw [h]
    exact sr (ids := []) (vs := [boo false]) (mem := []) (ac g_8 (ac g_8 (ac g_8 (ac g_8 (ac abff (ac abff (ac abff (ac abff (ac abff (ac abff (ac abff abff))))))))))) (by kernel_rfl) (by kernel_rfl) (rts_sc rfl)

-- (grade.times).move
abbrev grade_times_move_V (m : Int) (s1 : Spot) (r0 : Spot) : Prop := (InR (m * s1.x)) ∧ (InR (m * s1.y)) ∧ r0 = (⟨(m * s1.x), (m * s1.y)⟩ : Spot)
theorem grade_times_move_W (m : Int) (s1 : Spot) (r0 : Spot) (h : grade_times_move_V m s1 r0) : Ret Tryd.prog XS 27 [int m, .agg [int s1.x, int s1.y]] (.agg [int r0.x, int r0.y]) := by
  refine fn_rule Tryd.func27 (by kernel_rfl) (by kernel_rfl) (by kernel_rfl) (by kernel_rfl) ?_
  obtain ⟨c1, c2, h⟩ := h
  rw [h]
  exact sr (ids := []) (vs := [.agg [int (m * s1.x), int (m * s1.y)]]) (mem := []) (ac (omul Tryd.prog 3 (wi64 c1)) (omul Tryd.prog 3 (wi64 c2))) (by kernel_rfl) (by kernel_rfl) (rts_agg (rcs_sc (rcs_sc (rcs_nil rfl))))

end Go.Ab
end

section
namespace Go.Ab
open Go.Proofs
set_option maxRecDepth 100000
set_option linter.unusedVariables false
attribute [local irreducible] todoQ
-- grade.along
def grade_along_S0 (l : List Spot) (a : Spot) (b : Spot) (v19 : Int) (w8 : List Spot) : AS := ⟨[(4, .ptr 0 0 0), (5, .ptr 1 0 0), (7, int (((l.length : Nat) : Int) - 1)), (8, .own 2 0 w8.length), (17, .sl 2 (l.map cSpot)), (18, int ((l.length : Nat) : Int)), (19, int v19)], [(0, .box [int a.x, int a.y]), (1, .box [int b.x, int b.y]), (2, .row 2 (w8.map cSpot))], 3⟩
abbrev grade_along_V (l : List Spot) (a : Spot) (b : Spot) (r0 : List Spot) (I0 : Int → (List Spot) → Prop) (M0 : Int → (List Spot) → Nat) : Prop := (InR (((l.length : Nat) : Int) - 1)) ∧ (0 ≤ ((l.length : Nat) : Int)) ∧ (((l.length : Nat) : Int) * 16 ≤ 140737488355328) ∧ (((l.length : Nat) : Int) ≤ 9223372036854775807) ∧ I0 0 (List.replicate (((l.length : Nat) : Int) : Int).toNat (⟨0, 0⟩ : Spot))
abbrev grade_along_V0 (l : List Spot) (a : Spot) (b : Spot) (r0 : List Spot) (I0 : Int → (List Spot) → Prop) (M0 : Int → (List Spot) → Nat) (v19 : Int) (w8 : List Spot) : Prop := ((v19 < ((l.length : Nat) : Int) → (Idx v19 l.length) ∧ (InR ((((l.length : Nat) : Int) - 1) - v19)) ∧ (InR (((((l.length : Nat) : Int) - 1) - v19) * a.x)) ∧ (InR (v19 * b.x)) ∧ (InR ((((((l.length : Nat) : Int) - 1) - v19) * a.x) + (v19 * b.x))) ∧ (∃ (share1 : Int), Ret Tryd.prog XS 41 [int ((((((l.length : Nat) : Int) - 1) - v19) * a.x) + (v19 * b.x)), int (((l.length : Nat) : Int) - 1)] (int share1) ∧ (InR ((ai l v19).x + share1)) ∧ (InR (((((l.length : Nat) : Int) - 1) - v19) * a.y)) ∧ (InR (v19 * b.y)) ∧ (InR ((((((l.length : Nat) : Int) - 1) - v19) * a.y) + (v19 * b.y))) ∧ (∃ (share2 : Int), Ret Tryd.prog XS 41 [int ((((((l.length : Nat) : Int) - 1) - v19) * a.y) + (v19 * b.y)), int (((l.length : Nat) : Int) - 1)] (int share2) ∧ (InR ((ai l v19).y + share2)) ∧ (Idx v19 w8.length) ∧ (InR (v19 + 1)) ∧ I0 (v19 + 1) (w8.set (v19 : Int).toNat (⟨((ai l v19).x + share1), ((ai l v19).y + share2)⟩ : Spot)) ∧ M0 (v19 + 1) (w8.set (v19 : Int).toNat (⟨((ai l v19).x + share1), ((ai l v19).y + share2)⟩ : Spot)) < M0 v19 w8))) ∧ (¬ (v19 < ((l.length : Nat) : Int)) → r0 = w8))
theorem grade_along_W0 (l : List Spot) (a : Spot) (b : Spot) (r0 : List Spot) (I0 : Int → (List Spot) → Prop) (M0 : Int → (List Spot) → Nat) (h0 : ∀ (v19 : Int) (w8 : List Spot), I0 v19 w8 → grade_along_V0 l a b r0 I0 M0 v19 w8) : ∀ (x : Int × (List Spot)), I0 x.1 x.2 → loopQ Tryd.prog XS Tryd.f28 0 (.fr 2 (r0.map cSpot)) [] (grade_along_S0 l a b x.1 x.2) := by
  intro x0 hx0
  refine loop_rule (fun (x : Int × (List Spot)) => I0 x.1 x.2) (fun (x : Int × (List Spot)) => M0 x.1 x.2) (fun (x : Int × (List Spot)) => grade_along_S0 l a b x.1 x.2) x0 hx0 ?_
  rintro ⟨v19, w8⟩ hx
  have h := h0 v19 w8 hx
  clear hx hx0 x0
  by_cases c1 : v19 < ((l.length : Nat) : Int)
  · have h := h.1 c1
    obtain ⟨c2, c3, c4, c5, c6, share1, c7, c8, c9, c10, c11, share2, c12, c13, c14, c15, h⟩ := h
    have g_1 := (osub Tryd.prog 3 (wi64 c3))
    exact sb (ts := [4, 5, 7, 8, 17, 18, 19]) (ids := [0, 1, 2]) (d := 0) (s0 := ⟨[(4, .ptr 0 0 0), (5, .ptr 1 0 0), (7, int (((l.length : Nat) : Int) - 1)), (8, .own 2 0 w8.length), (17, .sl 2 (l.map cSpot)), (18, int ((l.length : Nat) : Int)), (19, int (v19 + 1))], [(0, .box [int a.x, int a.y]), (1, .box [int b.x, int b.y]), (2, .row 2 ((w8.set (v19 : Int).toNat (⟨((ai l v19).x + share1), ((ai l v19).y + share2)⟩ : Spot)).map cSpot))], 4⟩) (ac (abt (dec_t c1)) (ac (oidx cSpot c2) (ac g_1 (ac (omul Tryd.prog 3 (wi64 c4)) (ac (omul Tryd.prog 3 (wi64 c5)) (ac (oadd Tryd.prog 3 (wi64 c6)) (ac (ocs c7) (ac (oadd Tryd.prog 3 (wi64 c8)) (ac g_1 (ac (omul Tryd.prog 3 (wi64 c9)) (ac (omul Tryd.prog 3 (wi64 c10)) (ac (oadd Tryd.prog 3 (wi64 c11)) (ac (ocs c12) (ac (oadd Tryd.prog 3 (wi64 c13)) (ac (oown cSpot (n := w8.length) rfl c14) (ac (oset cSpot (⟨((ai l v19).x + share1), ((ai l v19).y + share2)⟩ : Spot) c14) (oadd Tryd.prog 3 (wi64 c15)))))))))))))))))) (by kernel_rfl) (by kernel_rfl) rfl ((v19 + 1), (w8.set (v19 : Int).toNat (⟨((ai l v19).x + share1), ((ai l v19).y + share2)⟩ : Spot))) h.1 h.2 (Weak.anew [(0, some 0), (1, some 1), (2, some 2)] (by rfl) (wt_cons rfl (wk_ptr rfl) (wt_cons rfl (wk_ptr rfl) (wt_cons rfl wk_sc (wt_cons rfl (wk_own rfl (by simp)) (wt_cons rfl wk_sl (wt_cons rfl wk_sc (wt_cons rfl wk_sc wt_nil))))))) (wm_box rfl rfl (wl_cons wk_sc (wl_cons wk_sc wl_nil)) (wm_box rfl rfl (wl_cons wk_sc (wl_cons wk_sc wl_nil)) (wm_row rfl rfl wm_nil))))
  · have h := h.2 c1
    rw [h]
    exact sr (ids := [2]) (vs := [.own 2 0 w8.length]) (mem := [(2, .row 2 (w8.map cSpot))]) (abf (dec_f c1)) (by kernel_rfl) (by kernel_rfl) (rts_own rfl rfl rfl rfl)
theorem grade_along_W (l : List Spot) (a : Spot) (b : Spot) (r0 : List Spot) (I0 : Int → (List Spot) → Prop) (M0 : Int → (List Spot) → Nat) (h : grade_along_V l a b r0 I0 M0) (h0 : ∀ (v19 : Int) (w8 : List Spot), I0 v19 w8 → grade_along_V0 l a b r0 I0 M0 v19 w8) : Ret Tryd.prog XS 28 [.sl 2 (l.map cSpot), .agg [int a.x, int a.y], .agg [int b.x, int b.y]] (.fr 2 (r0.map cSpot)) := by
  refine fn_rule Tryd.func28 (by kernel_rfl) (by kernel_rfl) (by kernel_rfl) (by kernel_rfl) ?_
  obtain ⟨c1, c2, c3, c4, h⟩ := h
  have g_2 := (olen cSpot Tryd.prog 24 2 l (by kernel_rfl))
  exact sl (ts := [4, 5, 7, 8, 17, 18, 19]) (ids := [0, 1, 2]) (d := 0) (s0 := ⟨[(4, .ptr 0 0 0), (5, .ptr 1 0 0), (7, int (((l.length : Nat) : Int) - 1)), (8, .own 2 0 ((List.replicate (((l.length : Nat) : Int) : Int).toNat (⟨0, 0⟩ : Spot)).length)), (17, .sl 2 (l.map cSpot)), (18, int ((l.length : Nat) : Int)), (19, int 0)], [(0, .box [int a.x, int a.y]), (1, .box [int b.x, int b.y]), (2, .row 2 ((List.replicate (((l.length : Nat) : Int) : Int).toNat (⟨0, 0⟩ : Spot)).map cSpot))], 3⟩) (ac g_2 (ac (osub Tryd.prog 3 (wi64 c1)) (ac g_2 (ac (omake cSpot (v := (⟨0, 0⟩ : Spot)) (z := [int 0, int 0]) (l := ((l.length : Nat) : Int)) (b := 16) rfl c2 c3 c4) g_2)))) (by kernel_rfl) (by kernel_rfl) (Weak.anew [(0, some 0), (1, some 1), (2, some 2)] (by rfl) (wt_cons rfl (wk_ptr rfl) (wt_cons rfl (wk_ptr rfl) (wt_cons rfl wk_sc (wt_cons rfl (wk_own rfl rfl) (wt_cons rfl wk_sl (wt_cons rfl wk_sc (wt_cons rfl wk_sc wt_nil))))))) (wm_box rfl rfl (wl_cons wk_sc (wl_cons wk_sc wl_nil)) (wm_box rfl rfl (wl_cons wk_sc (wl_cons wk_sc wl_nil)) (wm_row rfl rfl wm_nil)))) (grade_along_W0 l a b r0 I0 M0 h0 (0, (List.replicate (((l.length : Nat) : Int) : Int).toNat (⟨0, 0⟩ : Spot))) h)

-- turn.Apply
-- grade.mirrored
-- turn.Poly
-- outline.Polygon
-- polygon.Area2
-- outline.edges
def outline_edges_S0 (l : List Edge) (v8 : Int) : AS := ⟨[(0, .sl 2 (l.map cEdge)), (6, .sl 2 (l.map cEdge)), (7, int ((l.length : Nat) : Int)), (8, int v8)], [], 0⟩
abbrev outline_edges_V (l : List Edge) (r0 : Int) (I0 : Int → Prop) (M0 : Int → Nat) : Prop := I0 0
abbrev outline_edges_V0 (l : List Edge) (r0 : Int) (I0 : Int → Prop) (M0 : Int → Nat) (v8 : Int) : Prop := ((v8 < ((l.length : Nat) : Int) → (Idx v8 l.length) ∧ (∃ (named1 : Bool), Ret Tryd.prog XS 43 [str ((ai l v8).name)] (boo named1) ∧ ((named1 = true → (Slc 0 v8 l.length) ∧ (∃ (edge2 : Bool), Ret Tryd.prog XS 44 [.sl 2 ((cut l 0 v8).map cEdge), .fn 45 [] [.ref [str ((ai l v8).name), .sl 2 (((ai l v8).line).map cSpot)]]] (boo edge2) ∧ ((edge2 = true → r0 = 7) ∧ (edge2 = false → (∃ (check3 : Int), Ret Tryd.prog XS 38 [.sl 2 (((ai l v8).line).map cSpot)] (int check3) ∧ ((check3 = 0 → (InR (v8 + 1)) ∧ I0 (v8 + 1) ∧ M0 (v8 + 1) < M0 v8) ∧ (¬ (check3 = 0) → r0 = check3))))))) ∧ (named1 = false → r0 = 1)))) ∧ (¬ (v8 < ((l.length : Nat) : Int)) → r0 = 0))
theorem outline_edges_W0 (l : List Edge) (r0 : Int) (I0 : Int → Prop) (M0 : Int → Nat) (h0 : ∀ (v8 : Int), I0 v8 → outline_edges_V0 l r0 I0 M0 v8) : ∀ (x : Int), I0 x → loopQ Tryd.prog XS Tryd.f35 0 (int r0) [] (outline_edges_S0 l x) := by
  intro x0 hx0
  refine loop_rule (fun (x : Int) => I0 x) (fun (x : Int) => M0 x) (fun (x : Int) => outline_edges_S0 l x) x0 hx0 ?_
  intro v8 hx
  have h := h0 v8 hx
  clear hx hx0 x0
  by_cases c1 : v8 < ((l.length : Nat) : Int)
  · have h := h.1 c1
    obtain ⟨c2, named1, c3, h⟩ := h
    have e_1 := (ac (abt (dec_t c1)) (ac (oidx cEdge c2) (ocs c3)))
    rcases Bool.eq_false_or_eq_true named1 with c4 | c4
    · have h := h.1 c4
      obtain ⟨c5, edge2, c6, h⟩ := h
      have e_2 := (ac (abf (not_f c4)) (ac (ocut0 cEdge 2 c5) (ocl [0] [(0, .box [str ((ai l v8).name), .sl 2 (((ai l v8).line).map cSpot)])] [.sl 2 ((cut l 0 v8).map cEdge), .fn 45 [] [.ptr 0 0 0]] (as_cons (ArgTo.same rfl) (as_cons (at_fn as_nil (as_cons (at_ptr rfl (as_cons (ArgTo.same rfl) (as_cons (ArgTo.same rfl) as_nil))) as_nil)) as_nil)) c6)))
      rcases Bool.eq_false_or_eq_true edge2 with c7 | c7
      · have h := h.1 c7
        rw [h]
        exact sr (ids := []) (vs := [int 7]) (mem := []) (ac e_1 (ac e_2 (abt c7))) (by kernel_rfl) (by kernel_rfl) (rts_sc rfl)
      · have h := h.2 c7
        obtain ⟨check3, c8, h⟩ := h
        have e_3 := (ac (abf c7) (ocs c8))
        by_cases c9 : check3 = 0
        · have h := h.1 c9
          obtain ⟨c10, h⟩ := h
          exact sb (ts := [0, 6, 7, 8]) (ids := []) (d := 0) (s0 := ⟨[(0, .sl 2 (l.map cEdge)), (6, .sl 2 (l.map cEdge)), (7, int ((l.length : Nat) : Int)), (8, int (v8 + 1))], [], 1⟩) (ac e_1 (ac e_2 (ac e_3 (ac (abf (bne_f c9)) (oadd Tryd.prog 3 (wi64 c10)))))) (by kernel_rfl) (by kernel_rfl) rfl (v8 + 1) h.1 h.2 (Weak.anew [] (by rfl) (wt_cons rfl wk_sl (wt_cons rfl wk_sl (wt_cons rfl wk_sc (wt_cons rfl wk_sc wt_nil)))) wm_nil)
        · have h := h.2 c9
          rw [h]
          exact sr (ids := []) (vs := [int check3]) (mem := []) (ac e_1 (ac e_2 (ac e_3 (abt (bne_t c9))))) (by kernel_rfl) (by kernel_rfl) (rts_sc rfl)
    · have h := h.2 c4
      rw [h]
      exact sr (ids := []) (vs := [int 1]) (mem := []) (ac e_1 (abt (not_t c4))) (by kernel_rfl) (by kernel_rfl) (rts_sc rfl)
  · have h := h.2 c1
    rw [h]
    exact sr (ids := []) (vs := [int 0]) (mem := []) (abf (dec_f c1)) (by kernel_rfl) (by kernel_rfl) (rts_sc rfl)
theorem outline_edges_W (l : List Edge) (r0 : Int) (I0 : Int → Prop) (M0 : Int → Nat) (h : outline_edges_V l r0 I0 M0) (h0 : ∀ (v8 : Int), I0 v8 → outline_edges_V0 l r0 I0 M0 v8) : Ret Tryd.prog XS 35 [.sl 2 (l.map cEdge)] (int r0) := by
  refine fn_rule Tryd.func35 (by kernel_rfl) (by kernel_rfl) (by kernel_rfl) (by kernel_rfl) ?_
  exact sl (ts := [0, 6, 7, 8]) (ids := []) (d := 0) (s0 := ⟨[(0, .sl 2 (l.map cEdge)), (6, .sl 2 (l.map cEdge)), (7, int ((l.length : Nat) : Int)), (8, int 0)], [], 0⟩) (olen cEdge Tryd.prog 22 2 l (by kernel_rfl)) (by kernel_rfl) (by kernel_rfl) (Weak.anew [] (by rfl) (wt_cons rfl wk_sl (wt_cons rfl wk_sl (wt_cons rfl wk_sc (wt_cons rfl wk_sc wt_nil)))) wm_nil) (outline_edges_W0 l r0 I0 M0 h0 0 h)

end Go.Ab
end

section
namespace Go.Ab
open Go.Proofs
set_option maxRecDepth 100000
set_option linter.unusedVariables false
attribute [local irreducible] todoQ
-- polygon.Check
def polygon_Check_S0 (p : List Spot) (v13 : Int) : AS := ⟨[(0, .sl 2 (p.map cSpot)), (11, .sl 2 (p.map cSpot)), (12, int ((p.length : Nat) : Int)), (13, int v13)], [], 0⟩
abbrev polygon_Check_V (p : List Spot) (r0 : Int) (I0 : Int → Prop) (M0 : Int → Nat) : Prop := ((((p.length : Nat) : Int) > 40 → r0 = 5) ∧ (¬ (((p.length : Nat) : Int) > 40) → ((((p.length : Nat) : Int) < 3 → r0 = 11) ∧ (¬ (((p.length : Nat) : Int) < 3) → I0 0))))
abbrev polygon_Check_V0 (p : List Spot) (r0 : Int) (I0 : Int → Prop) (M0 : Int → Nat) (v13 : Int) : Prop := ((v13 < ((p.length : Nat) : Int) → (Idx v13 p.length) ∧ (∃ (inside1 : Bool), Ret Tryd.prog XS 46 [int ((ai p v13).x)] (boo inside1) ∧ ((inside1 = true → (∃ (inside2 : Bool), Ret Tryd.prog XS 46 [int ((ai p v13).y)] (boo inside2) ∧ ((inside2 = true → (InR (v13 + 1)) ∧ I0 (v13 + 1) ∧ M0 (v13 + 1) < M0 v13) ∧ (inside2 = false → r0 = 3)))) ∧ (inside1 = false → r0 = 3)))) ∧ (¬ (v13 < ((p.length : Nat) : Int)) → (∃ (simple1 : Bool), Ret Tryd.prog XS 47 [.sl 2 (p.map cSpot)] (boo simple1) ∧ ((simple1 = true → r0 = 0) ∧ (simple1 = false → r0 = 11)))))
theorem polygon_Check_W0 (p : List Spot) (r0 : Int) (I0 : Int → Prop) (M0 : Int → Nat) (h0 : ∀ (v13 : Int), I0 v13 → polygon_Check_V0 p r0 I0 M0 v13) : ∀ (x : Int), I0 x → loopQ Tryd.prog XS Tryd.f36 0 (int r0) [] (polygon_Check_S0 p x) := by
  intro x0 hx0
  refine loop_rule (fun (x : Int) => I0 x) (fun (x : Int) => M0 x) (fun (x : Int) => polygon_Check_S0 p x) x0 hx0 ?_
  intro v13 hx
  have h := h0 v13 hx
  clear hx hx0 x0
  by_cases c1 : v13 < ((p.length : Nat) : Int)
  · have h := h.1 c1
    obtain ⟨c2, inside1, c3, h⟩ := h
    have g_1 := (abt (dec_t c1))
    have e_2 := (ac g_1 (ac (oidx cSpot c2) (ocs c3)))
    rcases Bool.eq_false_or_eq_true inside1 with c4 | c4
    · have h := h.1 c4
      obtain ⟨inside2, c5, h⟩ := h
      have g_3 := (abf (not_f c4))
      have e_4 := (ac g_3 (ac g_3 (ac g_3 (ac (ocs c5) (ac g_3 g_3)))))
      rcases Bool.eq_false_or_eq_true inside2 with c6 | c6
      · have h := h.1 c6
        obtain ⟨c7, h⟩ := h
        exact sb (ts := [0, 11, 12, 13]) (ids := []) (d := 0) (s0 := ⟨[(0, .sl 2 (p.map cSpot)), (11, .sl 2 (p.map cSpot)), (12, int ((p.length : Nat) : Int)), (13, int (v13 + 1))], [], 1⟩) (ac e_2 (ac e_4 (ac (abf (not_f c6)) (oadd Tryd.prog 3 (wi64 c7))))) (by kernel_rfl) (by kernel_rfl) rfl (v13 + 1) h.1 h.2 (Weak.anew [] (by rfl) (wt_cons rfl wk_sl (wt_cons rfl wk_sl (wt_cons rfl wk_sc (wt_cons rfl wk_sc wt_nil)))) wm_nil)
      · have h := h.2 c6
        rw [h]
        exact sr (ids := []) (vs := [int 3]) (mem := []) (ac e_2 (ac e_4 (abt (not_t c6)))) (by kernel_rfl) (by kernel_rfl) (rts_sc rfl)
    · have h := h.2 c4
      have g_5 := (abt (not_t c4))
      rw [h]
      exact sr (ids := []) (vs := [int 3]) (mem := []) (ac e_2 (ac g_5 (ac g_5 (ac g_5 (ac g_5 (ac g_5 abtt)))))) (by kernel_rfl) (by kernel_rfl) (rts_sc rfl)
  · have h := h.2 c1
    obtain ⟨simple1, c2, h⟩ := h
    have g_6 := (abf (dec_f c1))
    have e_7 := (ac g_6 (ocs c2))
    rcases Bool.eq_false_or_eq_true simple1 with c3 | c3
    · have h := h.1 c3
      rw [h]
      exact sr (ids := []) (vs := [int 0]) (mem := []) (ac e_7 (abf (not_f c3))) (by kernel_rfl) (by kernel_rfl) (rts_sc rfl)
    · have h := h.2 c3
      rw [h]
      exact sr (ids := []) (vs := [int 11]) (mem := []) (ac e_7 (abt (not_t c3))) (by kernel_rfl) (by kernel_rfl) (rts_sc rfl)
theorem polygon_Check_W (p : List Spot) (r0 : Int) (I0 : Int → Prop) (M0 : Int → Nat) (h : polygon_Check_V p r0 I0 M0) (h0 : ∀ (v13 : Int), I0 v13 → polygon_Check_V0 p r0 I0 M0 v13) : Ret Tryd.prog XS 36 [.sl 2 (p.map cSpot)] (int r0) := by
  refine fn_rule Tryd.func36 (by kernel_rfl) (by kernel_rfl) (by kernel_rfl) (by kernel_rfl) ?_
  have g_8 := (olen cSpot Tryd.prog 24 2 p (by kernel_rfl))
  by_cases c1 : ((p.length : Nat) : Int) > 40
  · have h := h.1 c1
    have g_9 := (abt (dec_t c1))
    rw [h]
    exact sr (ids := []) (vs := [int 5]) (mem := []) (ac g_8 g_9) (by kernel_rfl) (by kernel_rfl) (rts_sc rfl)
  · have h := h.2 c1
    have g_10 := (abf (dec_f c1))
    have e_11 := (ac g_10 g_8)
    by_cases c2 : ((p.length : Nat) : Int) < 3
    · have h := h.1 c2
      rw [h]
      exact sr (ids := []) (vs := [int 11]) (mem := []) (ac g_8 (ac e_11 (abt (dec_t c2)))) (by kernel_rfl) (by kernel_rfl) (rts_sc rfl)
    · have h := h.2 c2
      exact sl (ts := [0, 11, 12, 13]) (ids := []) (d := 0) (s0 := ⟨[(0, .sl 2 (p.map cSpot)), (11, .sl 2 (p.map cSpot)), (12, int ((p.length : Nat) : Int)), (13, int 0)], [], 0⟩) (ac g_8 (ac e_11 (ac (abf (dec_f c2)) g_8))) (by kernel_rfl) (by kernel_rfl) (Weak.anew [] (by rfl) (wt_cons rfl wk_sl (wt_cons rfl wk_sl (wt_cons rfl wk_sc (wt_cons rfl wk_sc wt_nil)))) wm_nil) (polygon_Check_W0 p r0 I0 M0 h0 0 h)

-- outline.vertices
def outline_vertices_S0 (l : List Edge) (out3 : List Spot) (v8 : Int) : AS := ⟨[(3, .own 0 0 out3.length), (6, .sl 2 (l.map cEdge)), (7, int ((l.length : Nat) : Int)), (8, int v8)], [(0, .row 2 (out3.map cSpot))], 1⟩
abbrev outline_vertices_V (l : List Edge) (r0 : List Spot) (I0 : (List Spot) → Int → Prop) (M0 : (List Spot) → Int → Nat) : Prop := I0 ([] : List Spot) 0
abbrev outline_vertices_V0 (l : List Edge) (r0 : List Spot) (I0 : (List Spot) → Int → Prop) (M0 : (List Spot) → Int → Nat) (out3 : List Spot) (v8 : Int) : Prop := ((v8 < ((l.length : Nat) : Int) → (Idx v8 l.length) ∧ (InR (((((ai l v8).line).length : Nat) : Int) - 1)) ∧ (Slc 0 (((((ai l v8).line).length : Nat) : Int) - 1) ((ai l v8).line).length) ∧ (Cap 16 (out3 ++ (cut ((ai l v8).line) 0 (((((ai l v8).line).length : Nat) : Int) - 1))).length) ∧ (InR (v8 + 1)) ∧ I0 (out3 ++ (cut ((ai l v8).line) 0 (((((ai l v8).line).length : Nat) : Int) - 1))) (v8 + 1) ∧ M0 (out3 ++ (cut ((ai l v8).line) 0 (((((ai l v8).line).length : Nat) : Int) - 1))) (v8 + 1) < M0 out3 v8) ∧ (¬ (v8 < ((l.length : Nat) : Int)) → r0 = out3))
theorem outline_vertices_W0 (l : List Edge) (r0 : List Spot) (I0 : (List Spot) → Int → Prop) (M0 : (List Spot) → Int → Nat) (h0 : ∀ (out3 : List Spot) (v8 : Int), I0 out3 v8 → outline_vertices_V0 l r0 I0 M0 out3 v8) : ∀ (x : (List Spot) × Int), I0 x.1 x.2 → loopQ Tryd.prog XS Tryd.f37 0 (.fr 2 (r0.map cSpot)) [] (outline_vertices_S0 l x.1 x.2) := by
  intro x0 hx0
  refine loop_rule (fun (x : (List Spot) × Int) => I0 x.1 x.2) (fun (x : (List Spot) × Int) => M0 x.1 x.2) (fun (x : (List Spot) × Int) => outline_vertices_S0 l x.1 x.2) x0 hx0 ?_
  rintro ⟨out3, v8⟩ hx
  have h := h0 out3 v8 hx
  clear hx hx0 x0
  by_cases c1 : v8 < ((l.length : Nat) : Int)
  · have h := h.1 c1
    obtain ⟨c2, c3, c4, c5, c6, h⟩ := h
    exact sb (ts := [3, 6, 7, 8]) (ids := [2]) (d := 0) (s0 := ⟨[(3, .own 2 0 ((out3 ++ (cut ((ai l v8).line) 0 (((((ai l v8).line).length : Nat) : Int) - 1))).length)), (6, .sl 2 (l.map cEdge)), (7, int ((l.length : Nat) : Int)), (8, int (v8 + 1))], [(2, .row 2 ((out3 ++ (cut ((ai l v8).line) 0 (((((ai l v8).line).length : Nat) : Int) - 1))).map cSpot))], 3⟩) (ac (abt (dec_t c1)) (ac (oidx cEdge c2) (ac (olen cSpot Tryd.prog 24 2 ((ai l v8).line) (by kernel_rfl)) (ac (osub Tryd.prog 3 (wi64 c3)) (ac (ocut0 cSpot 2 c4) (ac (oapp cSpot (n := out3.length) rfl c5) (oadd Tryd.prog 3 (wi64 c6)))))))) (by kernel_rfl) (by kernel_rfl) rfl ((out3 ++ (cut ((ai l v8).line) 0 (((((ai l v8).line).length : Nat) : Int) - 1))), (v8 + 1)) h.1 h.2 (Weak.anew [(0, some 2)] (by rfl) (wt_cons rfl (wk_own rfl rfl) (wt_cons rfl wk_sl (wt_cons rfl wk_sc (wt_cons rfl wk_sc wt_nil)))) (wm_row rfl rfl wm_nil))
  · have h := h.2 c1
    rw [h]
    exact sr (ids := [0]) (vs := [.own 0 0 out3.length]) (mem := [(0, .row 2 (out3.map cSpot))]) (abf (dec_f c1)) (by kernel_rfl) (by kernel_rfl) (rts_own rfl rfl rfl rfl)
theorem outline_vertices_W (l : List Edge) (r0 : List Spot) (I0 : (List Spot) → Int → Prop) (M0 : (List Spot) → Int → Nat) (h : outline_vertices_V l r0 I0 M0) (h0 : ∀ (out3 : List Spot) (v8 : Int), I0 out3 v8 → outline_vertices_V0 l r0 I0 M0 out3 v8) : Ret Tryd.prog XS 37 [.sl 2 (l.map cEdge)] (.fr 2 (r0.map cSpot)) := by
  refine fn_rule Tryd.func37 (by kernel_rfl) (by kernel_rfl) (by kernel_rfl) (by kernel_rfl) ?_
  exact sl (ts := [3, 6, 7, 8]) (ids := []) (d := 0) (s0 := ⟨[(3, .nil), (6, .sl 2 (l.map cEdge)), (7, int ((l.length : Nat) : Int)), (8, int 0)], [], 0⟩) (olen cEdge Tryd.prog 22 2 l (by kernel_rfl)) (by kernel_rfl) (by kernel_rfl) (Weak.anew [(0, none)] (by rfl) (wt_cons rfl (wk_nilown rfl) (wt_cons rfl wk_sl (wt_cons rfl wk_sc (wt_cons rfl wk_sc wt_nil)))) (wm_none rfl wm_nil)) (outline_vertices_W0 l r0 I0 M0 h0 (([] : List Spot), 0) h)

-- polyline.Check
def polyline_Check_S0 (l : List Spot) (v16 : Int) : AS := ⟨[(0, .sl 2 (l.map cSpot)), (14, .sl 2 (l.map cSpot)), (15, int ((l.length : Nat) : Int)), (16, int v16)], [], 0⟩
def polyline_Check_S1 (l : List Spot) (i5 : Int) : AS := ⟨[(0, .sl 2 (l.map cSpot)), (5, int i5)], [], 0⟩
abbrev polyline_Check_V (l : List Spot) (r0 : Int) (I0 : Int → Prop) (M0 : Int → Nat) (I1 : Int → Prop) (M1 : Int → Nat) : Prop := ((((l.length : Nat) : Int) > 40 → r0 = 5) ∧ (¬ (((l.length : Nat) : Int) > 40) → ((((l.length : Nat) : Int) < 2 → r0 = 11) ∧ (¬ (((l.length : Nat) : Int) < 2) → I0 0))))
abbrev polyline_Check_V0 (l : List Spot) (r0 : Int) (I0 : Int → Prop) (M0 : Int → Nat) (I1 : Int → Prop) (M1 : Int → Nat) (v16 : Int) : Prop := ((v16 < ((l.length : Nat) : Int) → (Idx v16 l.length) ∧ (∃ (coord1 : Bool), Ret Tryd.prog XS 48 [int ((ai l v16).x)] (boo coord1) ∧ ((coord1 = true → (∃ (coord2 : Bool), Ret Tryd.prog XS 48 [int ((ai l v16).y)] (boo coord2) ∧ ((coord2 = true → (InR (v16 + 1)) ∧ I0 (v16 + 1) ∧ M0 (v16 + 1) < M0 v16) ∧ (coord2 = false → r0 = 3)))) ∧ (coord1 = false → r0 = 3)))) ∧ (¬ (v16 < ((l.length : Nat) : Int)) → I1 1))
abbrev polyline_Check_V1 (l : List Spot) (r0 : Int) (I0 : Int → Prop) (M0 : Int → Nat) (I1 : Int → Prop) (M1 : Int → Nat) (i5 : Int) : Prop := ((i5 < ((l.length : Nat) : Int) → (Idx i5 l.length) ∧ (InR (i5 - 1)) ∧ (Idx (i5 - 1) l.length) ∧ (((ai l i5) = (ai l (i5 - 1)) → r0 = 11) ∧ (¬ ((ai l i5) = (ai l (i5 - 1))) → (InR (i5 + 1)) ∧ I1 (i5 + 1) ∧ M1 (i5 + 1) < M1 i5))) ∧ (¬ (i5 < ((l.length : Nat) : Int)) → r0 = 0))
theorem polyline_Check_W1 (l : List Spot) (r0 : Int) (I0 : Int → Prop) (M0 : Int → Nat) (I1 : Int → Prop) (M1 : Int → Nat) (h0 : ∀ (v16 : Int), I0 v16 → polyline_Check_V0 l r0 I0 M0 I1 M1 v16) (h1 : ∀ (i5 : Int), I1 i5 → polyline_Check_V1 l r0 I0 M0 I1 M1 i5) : ∀ (x : Int), I1 x → loopQ Tryd.prog XS Tryd.f38 1 (int r0) [] (polyline_Check_S1 l x) := by
  intro x0 hx0
  refine loop_rule (fun (x : Int) => I1 x) (fun (x : Int) => M1 x) (fun (x : Int) => polyline_Check_S1 l x) x0 hx0 ?_
  intro i5 hx
  have h := h1 i5 hx
  clear hx hx0 x0
  have g_1 := (olen cSpot Tryd.prog 24 2 l (by kernel_rfl))
  by_cases c1 : i5 < ((l.length : Nat) : Int)
  · have h := h.1 c1
    obtain ⟨c2, c3, c4, h⟩ := h
    have g_2 := (abt (dec_t c1))
    have g_3 := (oidx cSpot c2)
    have e_4 := (ac g_2 (ac g_3 (ac (osub Tryd.prog 3 (wi64 c3)) (oidx cSpot c4))))
    by_cases c5 : (ai l i5) = (ai l (i5 - 1))
    · have h := h.1 c5
      rw [h]
      exact sr (ids := []) (vs := [int 11]) (mem := []) (ac g_1 (ac e_4 (abt (sSpot_t c5)))) (by kernel_rfl) (by kernel_rfl) (rts_sc rfl)
    · have h := h.2 c5
      obtain ⟨c6, h⟩ := h
      exact sb (ts := [0, 5]) (ids := []) (d := 0) (s0 := ⟨[(0, .sl 2 (l.map cSpot)), (5, int (i5 + 1))], [], 0⟩) (ac g_1 (ac e_4 (ac (abf (sSpot_f c5)) (oadd Tryd.prog 3 (wi64 c6))))) (by kernel_rfl) (by kernel_rfl) rfl (i5 + 1) h.1 h.2 (Weak.anew [] (by rfl) (wt_cons rfl wk_sl (wt_cons rfl wk_sc wt_nil)) wm_nil)
  · have h := h.2 c1
    have g_5 := (abf (dec_f c1))
    rw [h]
    exact sr (ids := []) (vs := [int 0]) (mem := []) (ac g_1 g_5) (by kernel_rfl) (by kernel_rfl) (rts_sc rfl)
theorem polyline_Check_W0 (l : List Spot) (r0 : Int) (I0 : Int → Prop) (M0 : Int → Nat) (I1 : Int → Prop) (M1 : Int → Nat) (h0 : ∀ (v16 : Int), I0 v16 → polyline_Check_V0 l r0 I0 M0 I1 M1 v16) (h1 : ∀ (i5 : Int), I1 i5 → polyline_Check_V1 l r0 I0 M0 I1 M1 i5) : ∀ (x : Int), I0 x → loopQ Tryd.prog XS Tryd.f38 0 (int r0) [] (polyline_Check_S0 l x) := by
  intro x0 hx0
  refine loop_rule (fun (x : Int) => I0 x) (fun (x : Int) => M0 x) (fun (x : Int) => polyline_Check_S0 l x) x0 hx0 ?_
  intro v16 hx
  have h := h0 v16 hx
  clear hx hx0 x0
  by_cases c1 : v16 < ((l.length : Nat) : Int)
  · have h := h.1 c1
    obtain ⟨c2, coord1, c3, h⟩ := h
    have g_6 := (abt (dec_t c1))
    have g_7 := (oidx cSpot c2)
    have e_8 := (ac g_6 (ac g_7 (ocs c3)))
    rcases Bool.eq_false_or_eq_true coord1 with c4 | c4
    · have h := h.1 c4
      obtain ⟨coord2, c5, h⟩ := h
      have g_9 := (abf (not_f c4))
      have e_10 := (ac g_9 (ac g_9 (ac g_9 (ac (ocs c5) (ac g_9 g_9)))))
      rcases Bool.eq_false_or_eq_true coord2 with c6 | c6
      · have h := h.1 c6
        obtain ⟨c7, h⟩ := h
        exact sb (ts := [0, 14, 15, 16]) (ids := []) (d := 0) (s0 := ⟨[(0, .sl 2 (l.map cSpot)), (14, .sl 2 (l.map cSpot)), (15, int ((l.length : Nat) : Int)), (16, int (v16 + 1))], [], 1⟩) (ac e_8 (ac e_10 (ac (abf (not_f c6)) (oadd Tryd.prog 3 (wi64 c7))))) (by kernel_rfl) (by kernel_rfl) rfl (v16 + 1) h.1 h.2 (Weak.anew [] (by rfl) (wt_cons rfl wk_sl (wt_cons rfl wk_sl (wt_cons rfl wk_sc (wt_cons rfl wk_sc wt_nil)))) wm_nil)
      · have h := h.2 c6
        rw [h]
        exact sr (ids := []) (vs := [int 3]) (mem := []) (ac e_8 (ac e_10 (abt (not_t c6)))) (by kernel_rfl) (by kernel_rfl) (rts_sc rfl)
    · have h := h.2 c4
      have g_11 := (abt (not_t c4))
      rw [h]
      exact sr (ids := []) (vs := [int 3]) (mem := []) (ac e_8 (ac g_11 (ac g_11 (ac g_11 (ac g_11 (ac g_11 abtt)))))) (by kernel_rfl) (by kernel_rfl) (rts_sc rfl)
  · have h := h.2 c1
    have g_12 := (abf (dec_f c1))
    exact sl (ts := [0, 5]) (ids := []) (d := 1) (s0 := ⟨[(0, .sl 2 (l.map cSpot)), (5, int 1)], [], 0⟩) g_12 (by kernel_rfl) (by kernel_rfl) (Weak.anew [] (by rfl) (wt_cons rfl wk_sl (wt_cons rfl wk_sc wt_nil)) wm_nil) (polyline_Check_W1 l r0 I0 M0 I1 M1 h0 h1 1 h)
theorem polyline_Check_W (l : List Spot) (r0 : Int) (I0 : Int → Prop) (M0 : Int → Nat) (I1 : Int → Prop) (M1 : Int → Nat) (h : polyline_Check_V l r0 I0 M0 I1 M1) (h0 : ∀ (v16 : Int), I0 v16 → polyline_Check_V0 l r0 I0 M0 I1 M1 v16) (h1 : ∀ (i5 : Int), I1 i5 → polyline_Check_V1 l r0 I0 M0 I1 M1 i5) : Ret Tryd.prog XS 38 [.sl 2 (l.map cSpot)] (int r0) := by
  refine fn_rule Tryd.func38 (by kernel_rfl) (by kernel_rfl) (by kernel_rfl) (by kernel_rfl) ?_
  have g_13 := (olen cSpot Tryd.prog 24 2 l (by kernel_rfl))
  by_cases c1 : ((l.length : Nat) : Int) > 40
  · have h := h.1 c1
    have g_14 := (abt (dec_t c1))
    rw [h]
    exact sr (ids := []) (vs := [int 5]) (mem := []) (ac g_13 g_14) (by kernel_rfl) (by kernel_rfl) (rts_sc rfl)
  · have h := h.2 c1
    have g_15 := (abf (dec_f c1))
    have e_16 := (ac g_15 g_13)
    by_cases c2 : ((l.length : Nat) : Int) < 2
    · have h := h.1 c2
      rw [h]
      exact sr (ids := []) (vs := [int 11]) (mem := []) (ac g_13 (ac e_16 (abt (dec_t c2)))) (by kernel_rfl) (by kernel_rfl) (rts_sc rfl)
    · have h := h.2 c2
      exact sl (ts := [0, 14, 15, 16]) (ids := []) (d := 0) (s0 := ⟨[(0, .sl 2 (l.map cSpot)), (14, .sl 2 (l.map cSpot)), (15, int ((l.length : Nat) : Int)), (16, int 0)], [], 0⟩) (ac g_13 (ac e_16 (ac (abf (dec_f c2)) g_13))) (by kernel_rfl) (by kernel_rfl) (Weak.anew [] (by rfl) (wt_cons rfl wk_sl (wt_cons rfl wk_sl (wt_cons rfl wk_sc (wt_cons rfl wk_sc wt_nil)))) wm_nil) (polyline_Check_W0 l r0 I0 M0 I1 M1 h0 h1 0 h)

-- polyline.segment
-- turn.Norm
-- grade.share
abbrev grade_share_V (n : Int) (s1 : Int) (r0 : Int) : Prop := ((n < 0 → (InR (-n)) ∧ (∃ (share1 : Int), Ret Tryd.prog XS 41 [int (-n), int s1] (int share1) ∧ (InR (-share1)) ∧ r0 = (-share1))) ∧ (¬ (n < 0) → (InR (2 * n)) ∧ (InR ((2 * n) + s1)) ∧ (InR (2 * s1)) ∧ ((2 * s1) ≠ 0) ∧ (InR (((2 * n) + s1).tdiv (2 * s1))) ∧ r0 = (((2 * n) + s1).tdiv (2 * s1))))
theorem grade_share_W (n : Int) (s1 : Int) (r0 : Int) (h : grade_share_V n s1 r0) : Ret Tryd.prog XS 41 [int n, int s1] (int r0) := by
  refine fn_rule Tryd.func41 (by kernel_rfl) (by kernel_rfl) (by kernel_rfl) (by kernel_rfl) ?_
  by_cases c1 : n < 0
  · have h := h.1 c1
    obtain ⟨c2, share1, c3, c4, h⟩ := h
    rw [h]
    exact sr (ids := []) (vs := [int (-share1)]) (mem := []) (ac (abt (dec_t c1)) (ac (oneg (wi64 c2)) (ac (ocs c3) (oneg (wi64 c4))))) (by kernel_rfl) (by kernel_rfl) (rts_sc rfl)
  · have h := h.2 c1
    obtain ⟨c2, c3, c4, c5, c6, h⟩ := h
    rw [h]
    exact sr (ids := []) (vs := [int (((2 * n) + s1).tdiv (2 * s1))]) (mem := []) (ac (abf (dec_f c1)) (ac (omul Tryd.prog 3 (wi64 c2)) (ac (oadd Tryd.prog 3 (wi64 c3)) (ac (omul Tryd.prog 3 (wi64 c4)) (oquo Tryd.prog 3 c5 (wi64 c6)))))) (by kernel_rfl) (by kernel_rfl) (rts_sc rfl)

-- polygon.area
-- outline.named
abbrev outline_named_V (s0 : ByteArray) (r0 : Bool) : Prop := (∃ (check1 : Int), Ret Tryd.prog XS 51 [.agg [int 2, boo false, .sl 1 (([] : List Int).map cU32), .sl 1 (([] : List Int).map cU32), str s0, .nil]] (int check1) ∧ r0 = (check1 == 0))
theorem outline_named_W (s0 : ByteArray) (r0 : Bool) (h : outline_named_V s0 r0) : Ret Tryd.prog XS 43 [str s0] (boo r0) := by
  refine fn_rule Tryd.func43 (by kernel_rfl) (by kernel_rfl) (by kernel_rfl) (by kernel_rfl) ?_
  obtain ⟨check1, c1, h⟩ := h
  rw [h]
  exact sr (ids := []) (vs := [boo (check1 == 0)]) (mem := []) (ocl [] [] [.agg [int 2, boo false, .nil, .nil, str s0, .nil]] (as_cons (at_agg (as_cons (ArgTo.same rfl) (as_cons (ArgTo.same rfl) (as_cons (ArgTo.nil _) (as_cons (ArgTo.nil _) (as_cons (ArgTo.same rfl) (as_cons (ArgTo.same rfl) as_nil))))))) as_nil) c1) (by kernel_rfl) (by kernel_rfl) (rts_sc rfl)

-- slices.ContainsFunc[[]api.Edge,api.Edge]
abbrev slices_ContainsFunc_api_Edge_api_Edge_V (s0 : List Edge) (e1 : Edge) (r0 : Bool) : Prop := (∃ (edge1 : Int), Ret Tryd.prog XS 52 [.sl 2 (s0.map cEdge), .fn 45 [] [.ref [str e1.name, .sl 2 (e1.line.map cSpot)]]] (int edge1) ∧ r0 = (decide (edge1 ≥ 0)))
theorem slices_ContainsFunc_api_Edge_api_Edge_W (s0 : List Edge) (e1 : Edge) (r0 : Bool) (h : slices_ContainsFunc_api_Edge_api_Edge_V s0 e1 r0) : Ret Tryd.prog XS 44 [.sl 2 (s0.map cEdge), .fn 45 [] [.ref [str e1.name, .sl 2 (e1.line.map cSpot)]]] (boo r0) := by
  refine fn_rule Tryd.func44 (by kernel_rfl) (by kernel_rfl) (by kernel_rfl) (by kernel_rfl) ?_
  obtain ⟨edge1, c1, h⟩ := h
  rw [h]
  exact sr (ids := []) (vs := [boo (decide (edge1 ≥ 0))]) (mem := []) (ocl [] [] [.sl 2 (s0.map cEdge), .fn 45 [] [.ref [str e1.name, .sl 2 (e1.line.map cSpot)]]] (as_cons (ArgTo.same rfl) (as_cons (at_fn as_nil (as_cons (ArgTo.same rfl) as_nil)) as_nil)) c1) (by kernel_rfl) (by kernel_rfl) (rts_sc rfl)

-- outline.edges$1
abbrev outline_edges_1_V (y : Edge) (e1 : Edge) (r0 : Bool) : Prop := r0 = (y.name.toList == e1.name.toList)
theorem outline_edges_1_W (y : Edge) (e1 : Edge) (r0 : Bool) (h : outline_edges_1_V y e1 r0) : Ret Tryd.prog XS 45 [.agg [str y.name, .sl 2 (y.line.map cSpot)], .ref [str e1.name, .sl 2 (e1.line.map cSpot)]] (boo r0) := by
  refine fn_rule Tryd.func45 (by kernel_rfl) (by kernel_rfl) (by kernel_rfl) (by kernel_rfl) ?_
  rw [h]
  exact sr (ids := []) (vs := [boo (y.name.toList == e1.name.toList)]) (mem := []) az (by kernel_rfl) (by kernel_rfl) (rts_sc rfl)

-- polygon.inside
abbrev polygon_inside_V (n : Int) (r0 : Bool) : Prop := ((n ≥ (-1048576) → r0 = (decide (n ≤ 1048576))) ∧ (¬ (n ≥ (-1048576)) → r0 = false))
theorem polygon_inside_W (n : Int) (r0 : Bool) (h : polygon_inside_V n r0) : Ret Tryd.prog XS 46 [int n] (boo r0) := by
  refine fn_rule Tryd.func46 (by kernel_rfl) (by kernel_rfl) (by kernel_rfl) (by kernel_rfl) ?_
  by_cases c1 : n ≥ (-1048576)
  · have h := h.1 c1
    have g_1 := (abt (dec_t c1))
    rw [h]
    exact sr (ids := []) (vs := [boo (decide (n ≤ 1048576))]) (mem := []) (ac g_1 (ac g_1 g_1)) (by kernel_rfl) (by kernel_rfl) (rts_sc rfl)
  · have h := h.2 c1
    have g_2 := (abf (dec_f c1))
    rw [h]
    exact sr (ids := []) (vs := [boo false]) (mem := []) (ac g_2 (ac g_2 g_2)) (by kernel_rfl) (by kernel_rfl) (rts_sc rfl)

end Go.Ab
end
