/- A part of the proof. Conditions: those of each theorem. -/
import Derived.Test.YtmdeiagmlabfmaaGreatDoorZTy
import Derived.Test.YtmdeiagmlabfmaaGreatDoorZX
set_option linter.unusedVariables false
set_option linter.unusedSimpArgs false
set_option linter.unusedSectionVars false

section
namespace Go.Ab
open Go.Proofs
set_option maxRecDepth 100000
set_option linter.unusedVariables false
attribute [local irreducible] todoQ
-- garmentref21.Light
def garmentref21_Light_S0 (listappend : Piece) (a : Int) (v5 : Int) (v6 : Int) : AS := ⟨[(1, int a), (2, .ptr 0 0 0), (5, int v5), (6, int v6)], [(0, .box [str listappend.name, .sl 2 (listappend.edges.map cEdge), int listappend.grain, .sl 2 (listappend.notches.map cNotch), .sl 2 (listappend.corners.map cSpot), .sl 1 (listappend.widths.map cI), boo listappend.match_])], 1⟩
abbrev garmentref21_Light_V (listappend : Piece) (a : Int) (r0 : Bool) (I0 : Int → Int → Prop) (M0 : Int → Int → Nat) : Prop := ((((listappend.edges.length : Nat) : Int) > 20 → r0 = false) ∧ (¬ (((listappend.edges.length : Nat) : Int) > 20) → ((((listappend.corners.length : Nat) : Int) > 20 → r0 = false) ∧ (¬ (((listappend.corners.length : Nat) : Int) > 20) → ((((listappend.widths.length : Nat) : Int) > 20 → r0 = false) ∧ (¬ (((listappend.widths.length : Nat) : Int) > 20) → ((((listappend.notches.length : Nat) : Int) > 20 → r0 = false) ∧ (¬ (((listappend.notches.length : Nat) : Int) > 20) → I0 0 0))))))))
abbrev garmentref21_Light_V0 (listappend : Piece) (a : Int) (r0 : Bool) (I0 : Int → Int → Prop) (M0 : Int → Int → Nat) (v5 : Int) (v6 : Int) : Prop := ((v6 < ((listappend.edges.length : Nat) : Int) → (Idx v6 listappend.edges.length) ∧ ((((((ai listappend.edges v6).line).length : Nat) : Int) > a → r0 = false) ∧ (¬ (((((ai listappend.edges v6).line).length : Nat) : Int) > a) → ((((((ai listappend.edges v6).name).size : Nat) : Int) > 100 → r0 = false) ∧ (¬ (((((ai listappend.edges v6).name).size : Nat) : Int) > 100) → (InR (v5 + ((((ai listappend.edges v6).line).length : Nat) : Int))) ∧ (InR (v6 + 1)) ∧ I0 (v5 + ((((ai listappend.edges v6).line).length : Nat) : Int)) (v6 + 1) ∧ M0 (v5 + ((((ai listappend.edges v6).line).length : Nat) : Int)) (v6 + 1) < M0 v5 v6))))) ∧ (¬ (v6 < ((listappend.edges.length : Nat) : Int)) → r0 = (decide (v5 ≤ a))))
theorem garmentref21_Light_W0 (listappend : Piece) (a : Int) (r0 : Bool) (I0 : Int → Int → Prop) (M0 : Int → Int → Nat) (h0 : ∀ (v5 : Int) (v6 : Int), I0 v5 v6 → garmentref21_Light_V0 listappend a r0 I0 M0 v5 v6) : ∀ (x : Int × Int), I0 x.1 x.2 → loopQ Tryz.prog XS Tryz.f5 0 (boo r0) [] (garmentref21_Light_S0 listappend a x.1 x.2) := by
  intro x0 hx0
  refine loop_rule (fun (x : Int × Int) => I0 x.1 x.2) (fun (x : Int × Int) => M0 x.1 x.2) (fun (x : Int × Int) => garmentref21_Light_S0 listappend a x.1 x.2) x0 hx0 ?_
  rintro ⟨v5, v6⟩ hx
  have h := h0 v5 v6 hx
  clear hx hx0 x0
  have g_1 := (olen cEdge Tryz.prog 22 2 listappend.edges (by kernel_rfl))
  by_cases c1 : v6 < ((listappend.edges.length : Nat) : Int)
  · have h := h.1 c1
    obtain ⟨c2, h⟩ := h
    have g_2 := (abt (dec_t c1))
    have g_3 := (oidx cEdge c2)
    have g_4 := (olen cSpot Tryz.prog 24 2 ((ai listappend.edges v6).line) (by kernel_rfl))
    have e_5 := (ac g_2 (ac g_3 g_4))
    by_cases c3 : ((((ai listappend.edges v6).line).length : Nat) : Int) > a
    · have h := h.1 c3
      have g_6 := (abt (dec_t c3))
      rw [h]
      exact sr (ids := []) (vs := [boo false]) (mem := []) (ac g_1 (ac e_5 (ac g_6 (ac g_6 (ac g_6 (ac g_6 (ac g_6 (ac g_6 (ac g_6 (ac g_6 (ac g_6 abtt))))))))))) (by kernel_rfl) (by kernel_rfl) (rts_sc rfl)
    · have h := h.2 c3
      have g_7 := (abf (dec_f c3))
      have e_8 := (ac g_7 (ac g_7 (ac g_7 (ac g_7 (ac g_3 (ac g_7 (ac g_7 (ac g_7 (ac (olens Tryz.prog 9 ((ai listappend.edges v6).name) (by kernel_rfl)) (ac g_7 g_7))))))))))
      by_cases c4 : ((((ai listappend.edges v6).name).size : Nat) : Int) > 100
      · have h := h.1 c4
        have g_9 := (abt (dec_t c4))
        rw [h]
        exact sr (ids := []) (vs := [boo false]) (mem := []) (ac g_1 (ac e_5 (ac e_8 g_9))) (by kernel_rfl) (by kernel_rfl) (rts_sc rfl)
      · have h := h.2 c4
        obtain ⟨c5, c6, h⟩ := h
        have g_10 := (abf (dec_f c4))
        exact sb (ts := [1, 2, 5, 6]) (ids := [0]) (d := 0) (s0 := ⟨[(1, int a), (2, .ptr 0 0 0), (5, int (v5 + ((((ai listappend.edges v6).line).length : Nat) : Int))), (6, int (v6 + 1))], [(0, .box [str listappend.name, .sl 2 (listappend.edges.map cEdge), int listappend.grain, .sl 2 (listappend.notches.map cNotch), .sl 2 (listappend.corners.map cSpot), .sl 1 (listappend.widths.map cI), boo listappend.match_])], 1⟩) (ac g_1 (ac e_5 (ac e_8 (ac g_10 (ac g_3 (ac g_4 (ac (oadd Tryz.prog 3 (wi64 c5)) (oadd Tryz.prog 3 (wi64 c6))))))))) (by kernel_rfl) (by kernel_rfl) rfl ((v5 + ((((ai listappend.edges v6).line).length : Nat) : Int)), (v6 + 1)) h.1 h.2 (Weak.anew [(0, some 0)] (by rfl) (wt_cons rfl wk_sc (wt_cons rfl (wk_ptr rfl) (wt_cons rfl wk_sc (wt_cons rfl wk_sc wt_nil)))) (wm_box rfl rfl (wl_cons wk_sc (wl_cons wk_sl (wl_cons wk_sc (wl_cons wk_sl (wl_cons wk_sl (wl_cons wk_sl (wl_cons wk_sc wl_nil))))))) wm_nil))
  · have h := h.2 c1
    have g_11 := (abf (dec_f c1))
    rw [h]
    exact sr (ids := []) (vs := [boo (decide (v5 ≤ a))]) (mem := []) (ac g_1 g_11) (by kernel_rfl) (by kernel_rfl) (rts_sc rfl)
theorem garmentref21_Light_W (listappend : Piece) (a : Int) (r0 : Bool) (I0 : Int → Int → Prop) (M0 : Int → Int → Nat) (h : garmentref21_Light_V listappend a r0 I0 M0) (h0 : ∀ (v5 : Int) (v6 : Int), I0 v5 v6 → garmentref21_Light_V0 listappend a r0 I0 M0 v5 v6) : Ret Tryz.prog XS 5 [.agg [str listappend.name, .sl 2 (listappend.edges.map cEdge), int listappend.grain, .sl 2 (listappend.notches.map cNotch), .sl 2 (listappend.corners.map cSpot), .sl 1 (listappend.widths.map cI), boo listappend.match_], int a] (boo r0) := by
  refine fn_rule Tryz.func5 (by kernel_rfl) (by kernel_rfl) (by kernel_rfl) (by kernel_rfl) ?_
  have g_12 := (olen cEdge Tryz.prog 22 2 listappend.edges (by kernel_rfl))
  by_cases c1 : ((listappend.edges.length : Nat) : Int) > 20
  · have h := h.1 c1
    have g_13 := (abt (dec_t c1))
    rw [h]
    exact sr (ids := []) (vs := [boo false]) (mem := []) (ac g_12 (ac g_13 (ac g_13 (ac g_13 (ac g_13 (ac g_13 (ac abtt (ac abtt (ac abtt (ac abtt (ac abtt (ac abtt (ac abtt (ac abtt (ac abtt (ac abtt abtt)))))))))))))))) (by kernel_rfl) (by kernel_rfl) (rts_sc rfl)
  · have h := h.2 c1
    have g_14 := (abf (dec_f c1))
    have e_15 := (ac g_14 (ac g_14 (ac g_14 (ac (olen cSpot Tryz.prog 24 2 listappend.corners (by kernel_rfl)) (ac g_14 g_14)))))
    by_cases c2 : ((listappend.corners.length : Nat) : Int) > 20
    · have h := h.1 c2
      have g_16 := (abt (dec_t c2))
      rw [h]
      exact sr (ids := []) (vs := [boo false]) (mem := []) (ac g_12 (ac e_15 (ac g_16 (ac g_16 (ac g_16 (ac g_16 (ac g_16 (ac abtt (ac abtt (ac abtt (ac abtt (ac abtt abtt)))))))))))) (by kernel_rfl) (by kernel_rfl) (rts_sc rfl)
    · have h := h.2 c2
      have g_17 := (abf (dec_f c2))
      have e_18 := (ac g_17 (ac g_17 (ac g_17 (ac (olen cI Tryz.prog 25 1 listappend.widths (by kernel_rfl)) (ac g_17 g_17)))))
      by_cases c3 : ((listappend.widths.length : Nat) : Int) > 20
      · have h := h.1 c3
        have g_19 := (abt (dec_t c3))
        rw [h]
        exact sr (ids := []) (vs := [boo false]) (mem := []) (ac g_12 (ac e_15 (ac e_18 (ac g_19 (ac g_19 (ac g_19 (ac g_19 (ac g_19 abtt)))))))) (by kernel_rfl) (by kernel_rfl) (rts_sc rfl)
      · have h := h.2 c3
        have g_20 := (abf (dec_f c3))
        have e_21 := (ac g_20 (ac g_20 (ac g_20 (ac (olen cNotch Tryz.prog 23 2 listappend.notches (by kernel_rfl)) (ac g_20 g_20)))))
        by_cases c4 : ((listappend.notches.length : Nat) : Int) > 20
        · have h := h.1 c4
          have g_22 := (abt (dec_t c4))
          rw [h]
          exact sr (ids := []) (vs := [boo false]) (mem := []) (ac g_12 (ac e_15 (ac e_18 (ac e_21 g_22)))) (by kernel_rfl) (by kernel_rfl) (rts_sc rfl)
        · have h := h.2 c4
          have g_23 := (abf (dec_f c4))
          exact sl (ts := [1, 2, 5, 6]) (ids := [0]) (d := 0) (s0 := ⟨[(1, int a), (2, .ptr 0 0 0), (5, int 0), (6, int 0)], [(0, .box [str listappend.name, .sl 2 (listappend.edges.map cEdge), int listappend.grain, .sl 2 (listappend.notches.map cNotch), .sl 2 (listappend.corners.map cSpot), .sl 1 (listappend.widths.map cI), boo listappend.match_])], 1⟩) (ac g_12 (ac e_15 (ac e_18 (ac e_21 g_23)))) (by kernel_rfl) (by kernel_rfl) (Weak.anew [(0, some 0)] (by rfl) (wt_cons rfl wk_sc (wt_cons rfl (wk_ptr rfl) (wt_cons rfl wk_sc (wt_cons rfl wk_sc wt_nil)))) (wm_box rfl rfl (wl_cons wk_sc (wl_cons wk_sl (wl_cons wk_sc (wl_cons wk_sl (wl_cons wk_sl (wl_cons wk_sl (wl_cons wk_sc wl_nil))))))) wm_nil)) (garmentref21_Light_W0 listappend a r0 I0 M0 h0 (0, 0) h)

-- grade.Graded
def grade_Graded_S0 (listappend : Piece) (a : Int) (v34 : Int) : AS := ⟨[(1, int a), (2, .ptr 0 0 0), (32, .sl 2 (listappend.corners.map cSpot)), (33, int ((listappend.corners.length : Nat) : Int)), (34, int v34)], [(0, .box [str listappend.name, .sl 2 (listappend.edges.map cEdge), int listappend.grain, .sl 2 (listappend.notches.map cNotch), .sl 2 (listappend.corners.map cSpot), .sl 1 (listappend.widths.map cI), boo listappend.match_])], 1⟩
def grade_Graded_S1 (listappend : Piece) (a : Int) (v10 : List Edge) (v53 : Int) : AS := ⟨[(2, .ptr 0 0 0), (9, .fn 18 [int a] []), (10, .own 1 0 v10.length), (51, .sl 2 (listappend.edges.map cEdge)), (52, int ((listappend.edges.length : Nat) : Int)), (53, int v53)], [(1, .row 2 (v10.map cEdge)), (0, .box [str listappend.name, .sl 2 (listappend.edges.map cEdge), int listappend.grain, .sl 2 (listappend.notches.map cNotch), .sl 2 (listappend.corners.map cSpot), .sl 1 (listappend.widths.map cI), boo listappend.match_])], 2⟩
abbrev grade_Graded_V (listappend : Piece) (a : Int) (r0 : List Edge) (r1 : Int) (I0 : Int → Prop) (M0 : Int → Nat) (I1 : (List Edge) → Int → Prop) (M1 : (List Edge) → Int → Nat) : Prop := ((a < (-100) → r0 = ([] : List Edge) ∧ r1 = 3) ∧ (¬ (a < (-100)) → ((a > 100 → r0 = ([] : List Edge) ∧ r1 = 3) ∧ (¬ (a > 100) → ((((listappend.corners.length : Nat) : Int) = ((listappend.edges.length : Nat) : Int) → I0 0) ∧ (¬ (((listappend.corners.length : Nat) : Int) = ((listappend.edges.length : Nat) : Int)) → r0 = ([] : List Edge) ∧ r1 = 1))))))
abbrev grade_Graded_V0 (listappend : Piece) (a : Int) (r0 : List Edge) (r1 : Int) (I0 : Int → Prop) (M0 : Int → Nat) (I1 : (List Edge) → Int → Prop) (M1 : (List Edge) → Int → Nat) (v34 : Int) : Prop := ((v34 < ((listappend.corners.length : Nat) : Int) → (Idx v34 listappend.corners.length) ∧ (∃ (shifted1 : Bool), Ret Tryz.prog XS 16 [.agg [int ((ai listappend.corners v34).x), int ((ai listappend.corners v34).y)]] (boo shifted1) ∧ ((shifted1 = true → (InR (v34 + 1)) ∧ I0 (v34 + 1) ∧ M0 (v34 + 1) < M0 v34) ∧ (shifted1 = false → r0 = ([] : List Edge) ∧ r1 = 3)))) ∧ (¬ (v34 < ((listappend.corners.length : Nat) : Int)) → (∃ (check1 : Int), Ret Tryz.prog XS 17 [.sl 2 (listappend.edges.map cEdge)] (int check1) ∧ ((check1 = 0 → I1 ([] : List Edge) 0) ∧ (¬ (check1 = 0) → r0 = ([] : List Edge) ∧ r1 = check1)))))
abbrev grade_Graded_V1 (listappend : Piece) (a : Int) (r0 : List Edge) (r1 : Int) (I0 : Int → Prop) (M0 : Int → Nat) (I1 : (List Edge) → Int → Prop) (M1 : (List Edge) → Int → Nat) (v10 : List Edge) (v53 : Int) : Prop := ((v53 < ((listappend.edges.length : Nat) : Int) → (Idx v53 listappend.edges.length) ∧ (Idx v53 listappend.corners.length) ∧ (∃ (move1 : Spot), Ret Tryz.prog XS 18 [int a, .agg [int ((ai listappend.corners v53).x), int ((ai listappend.corners v53).y)]] (.agg [int move1.x, int move1.y]) ∧ (InR (v53 + 1)) ∧ (((listappend.corners.length : Nat) : Int) ≠ 0) ∧ (Idx ((v53 + 1).tmod ((listappend.corners.length : Nat) : Int)) listappend.corners.length) ∧ (∃ (move2 : Spot), Ret Tryz.prog XS 18 [int a, .agg [int ((ai listappend.corners ((v53 + 1).tmod ((listappend.corners.length : Nat) : Int))).x), int ((ai listappend.corners ((v53 + 1).tmod ((listappend.corners.length : Nat) : Int))).y)]] (.agg [int move2.x, int move2.y]) ∧ (∃ (along3 : List Spot), Ret Tryz.prog XS 19 [.sl 2 (((ai listappend.edges v53).line).map cSpot), .agg [int move1.x, int move1.y], .agg [int move2.x, int move2.y]] (.fr 2 (along3.map cSpot)) ∧ (Cap 40 (v10 ++ ([(⟨(ai listappend.edges v53).name, along3⟩ : Edge)] : List Edge)).length) ∧ I1 (v10 ++ ([(⟨(ai listappend.edges v53).name, along3⟩ : Edge)] : List Edge)) (v53 + 1) ∧ M1 (v10 ++ ([(⟨(ai listappend.edges v53).name, along3⟩ : Edge)] : List Edge)) (v53 + 1) < M1 v10 v53)))) ∧ (¬ (v53 < ((listappend.edges.length : Nat) : Int)) → (∃ (check1_1 : Int), Ret Tryz.prog XS 17 [.sl 2 (v10.map cEdge)] (int check1_1) ∧ ((check1_1 = 0 → r0 = v10 ∧ r1 = 0) ∧ (¬ (check1_1 = 0) → r0 = ([] : List Edge) ∧ r1 = check1_1)))))
theorem grade_Graded_W1 (listappend : Piece) (a : Int) (r0 : List Edge) (r1 : Int) (I0 : Int → Prop) (M0 : Int → Nat) (I1 : (List Edge) → Int → Prop) (M1 : (List Edge) → Int → Nat) (h0 : ∀ (v34 : Int), I0 v34 → grade_Graded_V0 listappend a r0 r1 I0 M0 I1 M1 v34) (h1 : ∀ (v10 : List Edge) (v53 : Int), I1 v10 v53 → grade_Graded_V1 listappend a r0 r1 I0 M0 I1 M1 v10 v53) : ∀ (x : (List Edge) × Int), I1 x.1 x.2 → loopQ Tryz.prog XS Tryz.f7 1 (.tup [.fr 2 (r0.map cEdge), int r1]) [] (grade_Graded_S1 listappend a x.1 x.2) := by
  intro x0 hx0
  refine loop_rule (fun (x : (List Edge) × Int) => I1 x.1 x.2) (fun (x : (List Edge) × Int) => M1 x.1 x.2) (fun (x : (List Edge) × Int) => grade_Graded_S1 listappend a x.1 x.2) x0 hx0 ?_
  rintro ⟨v10, v53⟩ hx
  have h := h1 v10 v53 hx
  clear hx hx0 x0
  by_cases c1 : v53 < ((listappend.edges.length : Nat) : Int)
  · have h := h.1 c1
    obtain ⟨c2, c3, move1, c4, c5, c6, c7, move2, c8, along3, c9, c10, h⟩ := h
    have g_1 := (abt (dec_t c1))
    have g_2 := (oadd Tryz.prog 3 (wi64 c5))
    have g_3 := (olen cSpot Tryz.prog 24 2 listappend.corners (by kernel_rfl))
    exact sb (ts := [2, 9, 10, 51, 52, 53]) (ids := [7, 0]) (d := 0) (s0 := ⟨[(2, .ptr 0 0 0), (9, .fn 18 [int a] []), (10, .own 7 0 ((v10 ++ ([(⟨(ai listappend.edges v53).name, along3⟩ : Edge)] : List Edge)).length)), (51, .sl 2 (listappend.edges.map cEdge)), (52, int ((listappend.edges.length : Nat) : Int)), (53, int (v53 + 1))], [(7, .row 2 ((v10 ++ ([(⟨(ai listappend.edges v53).name, along3⟩ : Edge)] : List Edge)).map cEdge)), (0, .box [str listappend.name, .sl 2 (listappend.edges.map cEdge), int listappend.grain, .sl 2 (listappend.notches.map cNotch), .sl 2 (listappend.corners.map cSpot), .sl 1 (listappend.widths.map cI), boo listappend.match_])], 8⟩) (ac g_1 (ac (oidx cEdge c2) (ac (oidx cSpot c3) (ac (ocs c4) (ac g_2 (ac g_3 (ac (orem Tryz.prog 3 .i64 (v53 + 1) ((listappend.corners.length : Nat) : Int) c6) (ac (oidx cSpot c7) (ac (ocs c8) (ac (ocs c9) (ac (ofz cSpot along3 (n := (along3.map cSpot).length) (List.length_map ..)) (ac (oappo cEdge (n := v10.length) (m := ([(⟨(ai listappend.edges v53).name, along3⟩ : Edge)] : List Edge).length) rfl rfl c10) g_2)))))))))))) (by kernel_rfl) (by kernel_rfl) rfl ((v10 ++ ([(⟨(ai listappend.edges v53).name, along3⟩ : Edge)] : List Edge)), (v53 + 1)) h.1 h.2 (Weak.anew [(1, some 7), (0, some 0)] (by rfl) (wt_cons rfl (wk_ptr rfl) (wt_cons rfl (wk_fn (wl_cons wk_sc wl_nil) wl_nil) (wt_cons rfl (wk_own rfl rfl) (wt_cons rfl wk_sl (wt_cons rfl wk_sc (wt_cons rfl wk_sc wt_nil)))))) (wm_row rfl rfl (wm_box rfl rfl (wl_cons wk_sc (wl_cons wk_sl (wl_cons wk_sc (wl_cons wk_sl (wl_cons wk_sl (wl_cons wk_sl (wl_cons wk_sc wl_nil))))))) wm_nil)))
  · have h := h.2 c1
    obtain ⟨check1_1, c2, h⟩ := h
    have g_4 := (abf (dec_f c1))
    have e_5 := (ac g_4 (ocl [1] [(1, .row 2 (v10.map cEdge))] [.own 1 0 v10.length] (as_cons (at_row rfl rfl) as_nil) c2))
    by_cases c3 : check1_1 = 0
    · have h := h.1 c3
      have g_6 := (abf (bne_f c3))
      rw [h.1, h.2]
      exact sr (ids := [1]) (vs := [.own 1 0 v10.length, int 0]) (mem := [(1, .row 2 (v10.map cEdge))]) (ac e_5 g_6) (by kernel_rfl) (by kernel_rfl) (rts_own rfl rfl rfl (rts_sc rfl))
    · have h := h.2 c3
      have g_7 := (abt (bne_t c3))
      rw [h.1, h.2]
      exact sr (ids := []) (vs := [.nil, int check1_1]) (mem := []) (ac e_5 g_7) (by kernel_rfl) (by kernel_rfl) (rts_nilfr (rts_sc rfl))
theorem grade_Graded_W0 (listappend : Piece) (a : Int) (r0 : List Edge) (r1 : Int) (I0 : Int → Prop) (M0 : Int → Nat) (I1 : (List Edge) → Int → Prop) (M1 : (List Edge) → Int → Nat) (h0 : ∀ (v34 : Int), I0 v34 → grade_Graded_V0 listappend a r0 r1 I0 M0 I1 M1 v34) (h1 : ∀ (v10 : List Edge) (v53 : Int), I1 v10 v53 → grade_Graded_V1 listappend a r0 r1 I0 M0 I1 M1 v10 v53) : ∀ (x : Int), I0 x → loopQ Tryz.prog XS Tryz.f7 0 (.tup [.fr 2 (r0.map cEdge), int r1]) [] (grade_Graded_S0 listappend a x) := by
  intro x0 hx0
  refine loop_rule (fun (x : Int) => I0 x) (fun (x : Int) => M0 x) (fun (x : Int) => grade_Graded_S0 listappend a x) x0 hx0 ?_
  intro v34 hx
  have h := h0 v34 hx
  clear hx hx0 x0
  by_cases c1 : v34 < ((listappend.corners.length : Nat) : Int)
  · have h := h.1 c1
    obtain ⟨c2, shifted1, c3, h⟩ := h
    have g_8 := (abt (dec_t c1))
    have e_9 := (ac g_8 (ac (oidx cSpot c2) (ocs c3)))
    rcases Bool.eq_false_or_eq_true shifted1 with c4 | c4
    · have h := h.1 c4
      obtain ⟨c5, h⟩ := h
      have g_10 := (oadd Tryz.prog 3 (wi64 c5))
      exact sb (ts := [1, 2, 32, 33, 34]) (ids := [0]) (d := 0) (s0 := ⟨[(1, int a), (2, .ptr 0 0 0), (32, .sl 2 (listappend.corners.map cSpot)), (33, int ((listappend.corners.length : Nat) : Int)), (34, int (v34 + 1))], [(0, .box [str listappend.name, .sl 2 (listappend.edges.map cEdge), int listappend.grain, .sl 2 (listappend.notches.map cNotch), .sl 2 (listappend.corners.map cSpot), .sl 1 (listappend.widths.map cI), boo listappend.match_])], 2⟩) (ac e_9 (ac (abf (not_f c4)) g_10)) (by kernel_rfl) (by kernel_rfl) rfl (v34 + 1) h.1 h.2 (Weak.anew [(0, some 0)] (by rfl) (wt_cons rfl wk_sc (wt_cons rfl (wk_ptr rfl) (wt_cons rfl wk_sl (wt_cons rfl wk_sc (wt_cons rfl wk_sc wt_nil))))) (wm_box rfl rfl (wl_cons wk_sc (wl_cons wk_sl (wl_cons wk_sc (wl_cons wk_sl (wl_cons wk_sl (wl_cons wk_sl (wl_cons wk_sc wl_nil))))))) wm_nil))
    · have h := h.2 c4
      rw [h.1, h.2]
      exact sr (ids := []) (vs := [.nil, int 3]) (mem := []) (ac e_9 (abt (not_t c4))) (by kernel_rfl) (by kernel_rfl) (rts_nilfr (rts_sc rfl))
  · have h := h.2 c1
    obtain ⟨check1, c2, h⟩ := h
    have g_11 := (abf (dec_f c1))
    have e_12 := (ac g_11 (ocs c2))
    by_cases c3 : check1 = 0
    · have h := h.1 c3
      have g_13 := (abf (bne_f c3))
      have g_14 := (olen cEdge Tryz.prog 22 2 listappend.edges (by kernel_rfl))
      exact sl (ts := [2, 9, 10, 51, 52, 53]) (ids := [0]) (d := 1) (s0 := ⟨[(2, .ptr 0 0 0), (9, .fn 18 [int a] []), (10, .nil), (51, .sl 2 (listappend.edges.map cEdge)), (52, int ((listappend.edges.length : Nat) : Int)), (53, int 0)], [(0, .box [str listappend.name, .sl 2 (listappend.edges.map cEdge), int listappend.grain, .sl 2 (listappend.notches.map cNotch), .sl 2 (listappend.corners.map cSpot), .sl 1 (listappend.widths.map cI), boo listappend.match_])], 1⟩) (ac e_12 (ac g_13 g_14)) (by kernel_rfl) (by kernel_rfl) (Weak.anew [(1, none), (0, some 0)] (by rfl) (wt_cons rfl (wk_ptr rfl) (wt_cons rfl (wk_fn (wl_cons wk_sc wl_nil) wl_nil) (wt_cons rfl (wk_nilown rfl) (wt_cons rfl wk_sl (wt_cons rfl wk_sc (wt_cons rfl wk_sc wt_nil)))))) (wm_none rfl (wm_box rfl rfl (wl_cons wk_sc (wl_cons wk_sl (wl_cons wk_sc (wl_cons wk_sl (wl_cons wk_sl (wl_cons wk_sl (wl_cons wk_sc wl_nil))))))) wm_nil))) (grade_Graded_W1 listappend a r0 r1 I0 M0 I1 M1 h0 h1 (([] : List Edge), 0) h)
    · have h := h.2 c3
      have g_15 := (abt (bne_t c3))
      rw [h.1, h.2]
      exact sr (ids := []) (vs := [.nil, int check1]) (mem := []) (ac e_12 g_15) (by kernel_rfl) (by kernel_rfl) (rts_nilfr (rts_sc rfl))
theorem grade_Graded_W (listappend : Piece) (a : Int) (r0 : List Edge) (r1 : Int) (I0 : Int → Prop) (M0 : Int → Nat) (I1 : (List Edge) → Int → Prop) (M1 : (List Edge) → Int → Nat) (h : grade_Graded_V listappend a r0 r1 I0 M0 I1 M1) (h0 : ∀ (v34 : Int), I0 v34 → grade_Graded_V0 listappend a r0 r1 I0 M0 I1 M1 v34) (h1 : ∀ (v10 : List Edge) (v53 : Int), I1 v10 v53 → grade_Graded_V1 listappend a r0 r1 I0 M0 I1 M1 v10 v53) : Ret Tryz.prog XS 7 [.agg [str listappend.name, .sl 2 (listappend.edges.map cEdge), int listappend.grain, .sl 2 (listappend.notches.map cNotch), .sl 2 (listappend.corners.map cSpot), .sl 1 (listappend.widths.map cI), boo listappend.match_], int a] (.tup [.fr 2 (r0.map cEdge), int r1]) := by
  refine fn_rule Tryz.func7 (by kernel_rfl) (by kernel_rfl) (by kernel_rfl) (by kernel_rfl) ?_
  by_cases c1 : a < (-100)
  · have h := h.1 c1
    have g_16 := (abt (dec_t c1))
    rw [h.1, h.2]
    exact sr (ids := []) (vs := [.nil, int 3]) (mem := []) (ac g_16 (ac g_16 (ac g_16 abtt))) (by kernel_rfl) (by kernel_rfl) (rts_nilfr (rts_sc rfl))
  · have h := h.2 c1
    have g_17 := (abf (dec_f c1))
    have e_18 := (ac g_17 (ac g_17 g_17))
    by_cases c2 : a > 100
    · have h := h.1 c2
      rw [h.1, h.2]
      exact sr (ids := []) (vs := [.nil, int 3]) (mem := []) (ac e_18 (abt (dec_t c2))) (by kernel_rfl) (by kernel_rfl) (rts_nilfr (rts_sc rfl))
    · have h := h.2 c2
      have g_19 := (olen cSpot Tryz.prog 24 2 listappend.corners (by kernel_rfl))
      have g_20 := (olen cEdge Tryz.prog 22 2 listappend.edges (by kernel_rfl))
      have e_21 := (ac (abf (dec_f c2)) (ac g_19 g_20))
      by_cases c3 : ((listappend.corners.length : Nat) : Int) = ((listappend.edges.length : Nat) : Int)
      · have h := h.1 c3
        have g_22 := (abf (bne_f c3))
        exact sl (ts := [1, 2, 32, 33, 34]) (ids := [0]) (d := 0) (s0 := ⟨[(1, int a), (2, .ptr 0 0 0), (32, .sl 2 (listappend.corners.map cSpot)), (33, int ((listappend.corners.length : Nat) : Int)), (34, int 0)], [(0, .box [str listappend.name, .sl 2 (listappend.edges.map cEdge), int listappend.grain, .sl 2 (listappend.notches.map cNotch), .sl 2 (listappend.corners.map cSpot), .sl 1 (listappend.widths.map cI), boo listappend.match_])], 1⟩) (ac e_18 (ac e_21 (ac g_22 g_19))) (by kernel_rfl) (by kernel_rfl) (Weak.anew [(0, some 0)] (by rfl) (wt_cons rfl wk_sc (wt_cons rfl (wk_ptr rfl) (wt_cons rfl wk_sl (wt_cons rfl wk_sc (wt_cons rfl wk_sc wt_nil))))) (wm_box rfl rfl (wl_cons wk_sc (wl_cons wk_sl (wl_cons wk_sc (wl_cons wk_sl (wl_cons wk_sl (wl_cons wk_sl (wl_cons wk_sc wl_nil))))))) wm_nil)) (grade_Graded_W0 listappend a r0 r1 I0 M0 I1 M1 h0 h1 0 h)
      · have h := h.2 c3
        have g_23 := (abt (bne_t c3))
        rw [h.1, h.2]
        exact sr (ids := []) (vs := [.nil, int 1]) (mem := []) (ac e_18 (ac e_21 g_23)) (by kernel_rfl) (by kernel_rfl) (rts_nilfr (rts_sc rfl))

-- grade.shifted
abbrev grade_shifted_V (s0 : Spot) (r0 : Bool) : Prop := ((s0.x ≥ (-1000) → ((s0.x ≤ 1000 → ((s0.y ≥ (-1000) → r0 = (decide (s0.y ≤ 1000))) ∧ (¬ (s0.y ≥ (-1000)) → r0 = false))) ∧ (¬ (s0.x ≤ 1000) → r0 = false))) ∧ (¬ (s0.x ≥ (-1000)) → r0 = false))
theorem grade_shifted_W (s0 : Spot) (r0 : Bool) (h : grade_shifted_V s0 r0) : Ret Tryz.prog XS 16 [.agg [int s0.x, int s0.y]] (boo r0) := by
  refine fn_rule Tryz.func16 (by kernel_rfl) (by kernel_rfl) (by kernel_rfl) (by kernel_rfl) ?_
  by_cases c1 : s0.x ≥ (-1000)
  · have h := h.1 c1
    have g_1 := (abt (dec_t c1))
    have e_2 := (ac g_1 (ac g_1 (ac g_1 g_1)))
    by_cases c2 : s0.x ≤ 1000
    · have h := h.1 c2
      have g_3 := (abt (dec_t c2))
      have e_4 := (ac g_3 (ac g_3 (ac g_3 g_3)))
      by_cases c3 : s0.y ≥ (-1000)
      · have h := h.1 c3
        have g_5 := (abt (dec_t c3))
        rw [h]
        exact sr (ids := []) (vs := [boo (decide (s0.y ≤ 1000))]) (mem := []) (ac e_2 (ac e_4 (ac g_5 (ac g_5 (ac g_5 g_5))))) (by kernel_rfl) (by kernel_rfl) (rts_sc rfl)
      · have h := h.2 c3
        have g_6 := (abf (dec_f c3))
        rw [h]
        exact sr (ids := []) (vs := [boo false]) (mem := []) (ac e_2 (ac e_4 (ac g_6 (ac g_6 (ac g_6 g_6))))) (by kernel_rfl) (by kernel_rfl) (rts_sc rfl)
    · have h := h.2 c2
      have g_7 := (abf (dec_f c2))
      rw [h]
      exact sr (ids := []) (vs := [boo false]) (mem := []) (ac e_2 (ac g_7 (ac g_7 (ac g_7 (ac g_7 (ac abff (ac abff (ac abff abff)))))))) (by kernel_rfl) (by kernel_rfl) (rts_sc rfl)
  · have h := h.2 c1
    have g_8 := (abf (dec_f c1))
    rw [h]
    exact sr (ids := []) (vs := [boo false]) (mem := []) (ac g_8 (ac g_8 (ac g_8 (ac g_8 (ac abff (ac abff (ac abff (ac abff (ac abff (ac abff (ac abff abff))))))))))) (by kernel_rfl) (by kernel_rfl) (rts_sc rfl)

-- outline.Check
def outline_Check_S0 (l : List Edge) (end4 : List Spot) (v27 : Int) : AS := ⟨[(0, .sl 2 (l.map cEdge)), (4, .sl 2 (end4.map cSpot)), (25, .sl 2 (l.map cEdge)), (26, int ((l.length : Nat) : Int)), (27, int v27)], [], 0⟩
abbrev outline_Check_V (l : List Edge) (r0 : Int) (I0 : (List Spot) → Int → Prop) (M0 : (List Spot) → Int → Nat) : Prop := ((((l.length : Nat) : Int) > 16 → r0 = 5) ∧ (¬ (((l.length : Nat) : Int) > 16) → ((((l.length : Nat) : Int) < 2 → r0 = 11) ∧ (¬ (((l.length : Nat) : Int) < 2) → (∃ (edges1 : Int), Ret Tryz.prog XS 31 [.sl 2 (l.map cEdge)] (int edges1) ∧ ((edges1 = 0 → (InR (((l.length : Nat) : Int) - 1)) ∧ (Idx (((l.length : Nat) : Int) - 1) l.length) ∧ I0 ((ai l (((l.length : Nat) : Int) - 1)).line) 0) ∧ (¬ (edges1 = 0) → r0 = edges1)))))))
abbrev outline_Check_V0 (l : List Edge) (r0 : Int) (I0 : (List Spot) → Int → Prop) (M0 : (List Spot) → Int → Nat) (end4 : List Spot) (v27 : Int) : Prop := ((v27 < ((l.length : Nat) : Int) → (Idx v27 l.length) ∧ (InR (((end4.length : Nat) : Int) - 1)) ∧ (Idx (((end4.length : Nat) : Int) - 1) end4.length) ∧ (Idx 0 ((ai l v27).line).length) ∧ (((ai end4 (((end4.length : Nat) : Int) - 1)) = (ai ((ai l v27).line) 0) → (InR (v27 + 1)) ∧ I0 ((ai l v27).line) (v27 + 1) ∧ M0 ((ai l v27).line) (v27 + 1) < M0 end4 v27) ∧ (¬ ((ai end4 (((end4.length : Nat) : Int) - 1)) = (ai ((ai l v27).line) 0)) → r0 = 11))) ∧ (¬ (v27 < ((l.length : Nat) : Int)) → (∃ (vertices1 : List Spot), Ret Tryz.prog XS 33 [.sl 2 (l.map cEdge)] (.fr 2 (vertices1.map cSpot)) ∧ (∃ (check2 : Int), Ret Tryz.prog XS 32 [.sl 2 (vertices1.map cSpot)] (int check2) ∧ r0 = check2))))
theorem outline_Check_W0 (l : List Edge) (r0 : Int) (I0 : (List Spot) → Int → Prop) (M0 : (List Spot) → Int → Nat) (h0 : ∀ (end4 : List Spot) (v27 : Int), I0 end4 v27 → outline_Check_V0 l r0 I0 M0 end4 v27) : ∀ (x : (List Spot) × Int), I0 x.1 x.2 → loopQ Tryz.prog XS Tryz.f17 0 (int r0) [] (outline_Check_S0 l x.1 x.2) := by
  intro x0 hx0
  refine loop_rule (fun (x : (List Spot) × Int) => I0 x.1 x.2) (fun (x : (List Spot) × Int) => M0 x.1 x.2) (fun (x : (List Spot) × Int) => outline_Check_S0 l x.1 x.2) x0 hx0 ?_
  rintro ⟨end4, v27⟩ hx
  have h := h0 end4 v27 hx
  clear hx hx0 x0
  by_cases c1 : v27 < ((l.length : Nat) : Int)
  · have h := h.1 c1
    obtain ⟨c2, c3, c4, c5, h⟩ := h
    have g_1 := (abt (dec_t c1))
    have e_2 := (ac g_1 (ac (oidx cEdge c2) (ac (olen cSpot Tryz.prog 24 2 end4 (by kernel_rfl)) (ac (osub Tryz.prog 3 (wi64 c3)) (ac (oidx cSpot c4) (oidx cSpot c5))))))
    by_cases c6 : (ai end4 (((end4.length : Nat) : Int) - 1)) = (ai ((ai l v27).line) 0)
    · have h := h.1 c6
      obtain ⟨c7, h⟩ := h
      exact sb (ts := [0, 4, 25, 26, 27]) (ids := []) (d := 0) (s0 := ⟨[(0, .sl 2 (l.map cEdge)), (4, .sl 2 (((ai l v27).line).map cSpot)), (25, .sl 2 (l.map cEdge)), (26, int ((l.length : Nat) : Int)), (27, int (v27 + 1))], [], 1⟩) (ac e_2 (ac (abf (not_f (sSpot_t c6))) (oadd Tryz.prog 3 (wi64 c7)))) (by kernel_rfl) (by kernel_rfl) rfl ((ai l v27).line, (v27 + 1)) h.1 h.2 (Weak.anew [] (by rfl) (wt_cons rfl wk_sl (wt_cons rfl wk_sl (wt_cons rfl wk_sl (wt_cons rfl wk_sc (wt_cons rfl wk_sc wt_nil))))) wm_nil)
    · have h := h.2 c6
      rw [h]
      exact sr (ids := []) (vs := [int 11]) (mem := []) (ac e_2 (abt (not_t (sSpot_f c6)))) (by kernel_rfl) (by kernel_rfl) (rts_sc rfl)
  · have h := h.2 c1
    obtain ⟨vertices1, c2, check2, c3, h⟩ := h
    have g_3 := (abf (dec_f c1))
    rw [h]
    exact sr (ids := []) (vs := [int check2]) (mem := []) (ac g_3 (ac (ocs c2) (ocl [0] [(0, .row 2 (vertices1.map cSpot))] [.own 0 0 ((vertices1.map cSpot).length)] (as_cons (at_row (List.length_map ..) rfl) as_nil) c3))) (by kernel_rfl) (by kernel_rfl) (rts_sc rfl)
theorem outline_Check_W (l : List Edge) (r0 : Int) (I0 : (List Spot) → Int → Prop) (M0 : (List Spot) → Int → Nat) (h : outline_Check_V l r0 I0 M0) (h0 : ∀ (end4 : List Spot) (v27 : Int), I0 end4 v27 → outline_Check_V0 l r0 I0 M0 end4 v27) : Ret Tryz.prog XS 17 [.sl 2 (l.map cEdge)] (int r0) := by
  refine fn_rule Tryz.func17 (by kernel_rfl) (by kernel_rfl) (by kernel_rfl) (by kernel_rfl) ?_
  have g_4 := (olen cEdge Tryz.prog 22 2 l (by kernel_rfl))
  by_cases c1 : ((l.length : Nat) : Int) > 16
  · have h := h.1 c1
    have g_5 := (abt (dec_t c1))
    rw [h]
    exact sr (ids := []) (vs := [int 5]) (mem := []) (ac g_4 g_5) (by kernel_rfl) (by kernel_rfl) (rts_sc rfl)
  · have h := h.2 c1
    have g_6 := (abf (dec_f c1))
    have e_7 := (ac g_6 g_4)
    by_cases c2 : ((l.length : Nat) : Int) < 2
    · have h := h.1 c2
      rw [h]
      exact sr (ids := []) (vs := [int 11]) (mem := []) (ac g_4 (ac e_7 (abt (dec_t c2)))) (by kernel_rfl) (by kernel_rfl) (rts_sc rfl)
    · have h := h.2 c2
      obtain ⟨edges1, c3, h⟩ := h
      have e_8 := (ac (abf (dec_f c2)) (ocs c3))
      by_cases c4 : edges1 = 0
      · have h := h.1 c4
        obtain ⟨c5, c6, h⟩ := h
        exact sl (ts := [0, 4, 25, 26, 27]) (ids := []) (d := 0) (s0 := ⟨[(0, .sl 2 (l.map cEdge)), (4, .sl 2 (((ai l (((l.length : Nat) : Int) - 1)).line).map cSpot)), (25, .sl 2 (l.map cEdge)), (26, int ((l.length : Nat) : Int)), (27, int 0)], [], 0⟩) (ac g_4 (ac e_7 (ac e_8 (ac (abf (bne_f c4)) (ac g_4 (ac (osub Tryz.prog 3 (wi64 c5)) (ac (oidx cEdge c6) g_4))))))) (by kernel_rfl) (by kernel_rfl) (Weak.anew [] (by rfl) (wt_cons rfl wk_sl (wt_cons rfl wk_sl (wt_cons rfl wk_sl (wt_cons rfl wk_sc (wt_cons rfl wk_sc wt_nil))))) wm_nil) (outline_Check_W0 l r0 I0 M0 h0 ((ai l (((l.length : Nat) : Int) - 1)).line, 0) h)
      · have h := h.2 c4
        rw [h]
        exact sr (ids := []) (vs := [int edges1]) (mem := []) (ac g_4 (ac e_7 (ac e_8 (abt (bne_t c4))))) (by kernel_rfl) (by kernel_rfl) (rts_sc rfl)

end Go.Ab
end

section
namespace Go.Ab
open Go.Proofs
set_option maxRecDepth 100000
set_option linter.unusedVariables false
attribute [local irreducible] todoQ
-- outline.edges
def outline_edges_S0 (l : List Edge) (v8 : Int) : AS := ⟨[(0, .sl 2 (l.map cEdge)), (6, .sl 2 (l.map cEdge)), (7, int ((l.length : Nat) : Int)), (8, int v8)], [], 0⟩
abbrev outline_edges_V (l : List Edge) (r0 : Int) (I0 : Int → Prop) (M0 : Int → Nat) : Prop := I0 0
abbrev outline_edges_V0 (l : List Edge) (r0 : Int) (I0 : Int → Prop) (M0 : Int → Nat) (v8 : Int) : Prop := ((v8 < ((l.length : Nat) : Int) → (Idx v8 l.length) ∧ (∃ (named1 : Bool), Ret Tryz.prog XS 46 [str ((ai l v8).name)] (boo named1) ∧ ((named1 = true → (Slc 0 v8 l.length) ∧ (∃ (edge2 : Bool), Ret Tryz.prog XS 47 [.sl 2 ((cut l 0 v8).map cEdge), .fn 48 [] [.ref [str ((ai l v8).name), .sl 2 (((ai l v8).line).map cSpot)]]] (boo edge2) ∧ ((edge2 = true → r0 = 7) ∧ (edge2 = false → (∃ (check3 : Int), Ret Tryz.prog XS 49 [.sl 2 (((ai l v8).line).map cSpot)] (int check3) ∧ ((check3 = 0 → (InR (v8 + 1)) ∧ I0 (v8 + 1) ∧ M0 (v8 + 1) < M0 v8) ∧ (¬ (check3 = 0) → r0 = check3))))))) ∧ (named1 = false → r0 = 1)))) ∧ (¬ (v8 < ((l.length : Nat) : Int)) → r0 = 0))
theorem outline_edges_W0 (l : List Edge) (r0 : Int) (I0 : Int → Prop) (M0 : Int → Nat) (h0 : ∀ (v8 : Int), I0 v8 → outline_edges_V0 l r0 I0 M0 v8) : ∀ (x : Int), I0 x → loopQ Tryz.prog XS Tryz.f31 0 (int r0) [] (outline_edges_S0 l x) := by
  intro x0 hx0
  refine loop_rule (fun (x : Int) => I0 x) (fun (x : Int) => M0 x) (fun (x : Int) => outline_edges_S0 l x) x0 hx0 ?_
  intro v8 hx
  have h := h0 v8 hx
  clear hx hx0 x0
  by_cases c1 : v8 < ((l.length : Nat) : Int)
  · have h := h.1 c1
    obtain ⟨c2, named1, c3, h⟩ := h
    have e_1 := (ac (abt (dec_t c1)) (ac (oidx cEdge c2) (ocs c3)))
    rcases Bool.eq_false_or_eq_true named1 with c4 | c4
    · have h := h.1 c4
      obtain ⟨c5, edge2, c6, h⟩ := h
      have e_2 := (ac (abf (not_f c4)) (ac (ocut0 cEdge 2 c5) (ocl [0] [(0, .box [str ((ai l v8).name), .sl 2 (((ai l v8).line).map cSpot)])] [.sl 2 ((cut l 0 v8).map cEdge), .fn 48 [] [.ptr 0 0 0]] (as_cons (ArgTo.same rfl) (as_cons (at_fn as_nil (as_cons (at_ptr rfl (as_cons (ArgTo.same rfl) (as_cons (ArgTo.same rfl) as_nil))) as_nil)) as_nil)) c6)))
      rcases Bool.eq_false_or_eq_true edge2 with c7 | c7
      · have h := h.1 c7
        rw [h]
        exact sr (ids := []) (vs := [int 7]) (mem := []) (ac e_1 (ac e_2 (abt c7))) (by kernel_rfl) (by kernel_rfl) (rts_sc rfl)
      · have h := h.2 c7
        obtain ⟨check3, c8, h⟩ := h
        have e_3 := (ac (abf c7) (ocs c8))
        by_cases c9 : check3 = 0
        · have h := h.1 c9
          obtain ⟨c10, h⟩ := h
          exact sb (ts := [0, 6, 7, 8]) (ids := []) (d := 0) (s0 := ⟨[(0, .sl 2 (l.map cEdge)), (6, .sl 2 (l.map cEdge)), (7, int ((l.length : Nat) : Int)), (8, int (v8 + 1))], [], 1⟩) (ac e_1 (ac e_2 (ac e_3 (ac (abf (bne_f c9)) (oadd Tryz.prog 3 (wi64 c10)))))) (by kernel_rfl) (by kernel_rfl) rfl (v8 + 1) h.1 h.2 (Weak.anew [] (by rfl) (wt_cons rfl wk_sl (wt_cons rfl wk_sl (wt_cons rfl wk_sc (wt_cons rfl wk_sc wt_nil)))) wm_nil)
        · have h := h.2 c9
          rw [h]
          exact sr (ids := []) (vs := [int check3]) (mem := []) (ac e_1 (ac e_2 (ac e_3 (abt (bne_t c9))))) (by kernel_rfl) (by kernel_rfl) (rts_sc rfl)
    · have h := h.2 c4
      rw [h]
      exact sr (ids := []) (vs := [int 1]) (mem := []) (ac e_1 (abt (not_t c4))) (by kernel_rfl) (by kernel_rfl) (rts_sc rfl)
  · have h := h.2 c1
    rw [h]
    exact sr (ids := []) (vs := [int 0]) (mem := []) (abf (dec_f c1)) (by kernel_rfl) (by kernel_rfl) (rts_sc rfl)
theorem outline_edges_W (l : List Edge) (r0 : Int) (I0 : Int → Prop) (M0 : Int → Nat) (h : outline_edges_V l r0 I0 M0) (h0 : ∀ (v8 : Int), I0 v8 → outline_edges_V0 l r0 I0 M0 v8) : Ret Tryz.prog XS 31 [.sl 2 (l.map cEdge)] (int r0) := by
  refine fn_rule Tryz.func31 (by kernel_rfl) (by kernel_rfl) (by kernel_rfl) (by kernel_rfl) ?_
  exact sl (ts := [0, 6, 7, 8]) (ids := []) (d := 0) (s0 := ⟨[(0, .sl 2 (l.map cEdge)), (6, .sl 2 (l.map cEdge)), (7, int ((l.length : Nat) : Int)), (8, int 0)], [], 0⟩) (olen cEdge Tryz.prog 22 2 l (by kernel_rfl)) (by kernel_rfl) (by kernel_rfl) (Weak.anew [] (by rfl) (wt_cons rfl wk_sl (wt_cons rfl wk_sl (wt_cons rfl wk_sc (wt_cons rfl wk_sc wt_nil)))) wm_nil) (outline_edges_W0 l r0 I0 M0 h0 0 h)

-- outline.named
abbrev outline_named_V (s0 : ByteArray) (r0 : Bool) : Prop := (∃ (check1 : Int), Ret Tryz.prog XS 58 [.agg [int 2, boo false, .sl 1 (([] : List Int).map cU32), .sl 1 (([] : List Int).map cU32), str s0, .nil]] (int check1) ∧ r0 = (check1 == 0))
theorem outline_named_W (s0 : ByteArray) (r0 : Bool) (h : outline_named_V s0 r0) : Ret Tryz.prog XS 46 [str s0] (boo r0) := by
  refine fn_rule Tryz.func46 (by kernel_rfl) (by kernel_rfl) (by kernel_rfl) (by kernel_rfl) ?_
  obtain ⟨check1, c1, h⟩ := h
  rw [h]
  exact sr (ids := []) (vs := [boo (check1 == 0)]) (mem := []) (ocl [] [] [.agg [int 2, boo false, .nil, .nil, str s0, .nil]] (as_cons (at_agg (as_cons (ArgTo.same rfl) (as_cons (ArgTo.same rfl) (as_cons (ArgTo.nil _) (as_cons (ArgTo.nil _) (as_cons (ArgTo.same rfl) (as_cons (ArgTo.same rfl) as_nil))))))) as_nil) c1) (by kernel_rfl) (by kernel_rfl) (rts_sc rfl)

-- formula.Check
abbrev formula_Check_V (s : ByteArray) (r0 : Int) : Prop := (∃ (check1 : Int), Ret Tryz.prog XS 67 [.agg [int 2, boo false, .sl 1 (([] : List Int).map cU32), .sl 1 (([] : List Int).map cU32), str s, .nil], int 1] (int check1) ∧ r0 = check1)
theorem formula_Check_W (s : ByteArray) (r0 : Int) (h : formula_Check_V s r0) : Ret Tryz.prog XS 58 [.agg [int 2, boo false, .sl 1 (([] : List Int).map cU32), .sl 1 (([] : List Int).map cU32), str s, .nil]] (int r0) := by
  refine fn_rule Tryz.func58 (by kernel_rfl) (by kernel_rfl) (by kernel_rfl) (by kernel_rfl) ?_
  obtain ⟨check1, c1, h⟩ := h
  rw [h]
  exact sr (ids := []) (vs := [int check1]) (mem := []) (ocs c1) (by kernel_rfl) (by kernel_rfl) (rts_sc rfl)

-- formula.check
def formula_check_S0 (s : ByteArray) (v16 : Int) : AS := ⟨[(1, int 1), (14, .nil), (15, int 0), (16, int v16)], [], 0⟩
abbrev formula_check_V (s : ByteArray) (r0 : Int) (I0 : Int → Prop) (M0 : Int → Nat) : Prop := (∃ (right1 : Bool), Ret Tryz.prog XS 74 [.agg [int 2, boo false, .sl 1 (([] : List Int).map cU32), .sl 1 (([] : List Int).map cU32), str s, .nil]] (boo right1) ∧ ((right1 = true → I0 0) ∧ (right1 = false → r0 = 1)))
abbrev formula_check_V0 (s : ByteArray) (r0 : Int) (I0 : Int → Prop) (M0 : Int → Nat) (v16 : Int) : Prop := ((v16 < 0 → False) ∧ (¬ (v16 < 0) → r0 = 0))
theorem formula_check_W0 (s : ByteArray) (r0 : Int) (I0 : Int → Prop) (M0 : Int → Nat) (h0 : ∀ (v16 : Int), I0 v16 → formula_check_V0 s r0 I0 M0 v16) : ∀ (x : Int), I0 x → loopQ Tryz.prog XS Tryz.f67 0 (int r0) [] (formula_check_S0 s x) := by
  intro x0 hx0
  refine loop_rule (fun (x : Int) => I0 x) (fun (x : Int) => M0 x) (fun (x : Int) => formula_check_S0 s x) x0 hx0 ?_
  intro v16 hx
  have h := h0 v16 hx
  clear hx hx0 x0
  by_cases c1 : v16 < 0
  · have h := h.1 c1
    exact h.elim
  · have h := h.2 c1
    rw [h]
    exact sr (ids := []) (vs := [int 0]) (mem := []) (abf (dec_f c1)) (by kernel_rfl) (by kernel_rfl) (rts_sc rfl)
theorem formula_check_W (s : ByteArray) (r0 : Int) (I0 : Int → Prop) (M0 : Int → Nat) (h : formula_check_V s r0 I0 M0) (h0 : ∀ (v16 : Int), I0 v16 → formula_check_V0 s r0 I0 M0 v16) : Ret Tryz.prog XS 67 [.agg [int 2, boo false, .sl 1 (([] : List Int).map cU32), .sl 1 (([] : List Int).map cU32), str s, .nil], int 1] (int r0) := by
  refine fn_rule Tryz.func67 (by kernel_rfl) (by kernel_rfl) (by kernel_rfl) (by kernel_rfl) ?_
  obtain ⟨right1, c1, h⟩ := h
  have e_1 := (ac abff (ocs c1))
  rcases Bool.eq_false_or_eq_true right1 with c2 | c2
  · have h := h.1 c2
    exact sl (ts := [1, 14, 15, 16]) (ids := []) (d := 0) (s0 := ⟨[(1, int 1), (14, .nil), (15, int 0), (16, int 0)], [], 1⟩) (ac e_1 (abf (not_f c2))) (by kernel_rfl) (by kernel_rfl) (Weak.anew [] (by rfl) (wt_cons rfl wk_sc (wt_cons rfl wk_nil (wt_cons rfl wk_sc (wt_cons rfl wk_sc wt_nil)))) wm_nil) (formula_check_W0 s r0 I0 M0 h0 0 h)
  · have h := h.2 c2
    rw [h]
    exact sr (ids := []) (vs := [int 1]) (mem := []) (ac e_1 (abt (not_t c2))) (by kernel_rfl) (by kernel_rfl) (rts_sc rfl)

-- formula.right
abbrev formula_right_V (s : ByteArray) (r0 : Bool) : Prop := (Ret Tryz.prog XS 76 [.agg [boo false, .sl 1 (([] : List Int).map cU32), .sl 1 (([] : List Int).map cU32)]] (boo true) ∧ (∃ (name1 : Bool), Ret Tryz.prog XS 77 [str s] (boo name1) ∧ ((name1 = true → r0 = true) ∧ (name1 = false → r0 = false))))
theorem formula_right_W (s : ByteArray) (r0 : Bool) (h : formula_right_V s r0) : Ret Tryz.prog XS 74 [.agg [int 2, boo false, .sl 1 (([] : List Int).map cU32), .sl 1 (([] : List Int).map cU32), str s, .nil]] (boo r0) := by
  refine fn_rule Tryz.func74 (by kernel_rfl) (by kernel_rfl) (by kernel_rfl) (by kernel_rfl) ?_
  obtain ⟨c1, name1, c2, h⟩ := h
  have e_1 := (ac abff (ac abtt (ac abff (ac abff (ac abff (ac abff (ac abff (ac abff (ac abff (ac (ocs c1) (ac abtt (ac (ocs c2) abff))))))))))))
  rcases Bool.eq_false_or_eq_true name1 with c3 | c3
  · have h := h.1 c3
    rw [h]
    exact sr (ids := []) (vs := [boo true]) (mem := []) (ac e_1 (ac (abt c3) (abt c3))) (by kernel_rfl) (by kernel_rfl) (rts_sc rfl)
  · have h := h.2 c3
    rw [h]
    exact sr (ids := []) (vs := [boo false]) (mem := []) (ac e_1 (ac (abf c3) (abf c3))) (by kernel_rfl) (by kernel_rfl) (rts_sc rfl)

-- formula.name
abbrev formula_name_V (s0 : ByteArray) (r0 : Bool) : Prop := ((s0 = ({ data := #[] } : ByteArray) → r0 = false) ∧ (¬ (s0 = ({ data := #[] } : ByteArray)) → ((((s0.size : Nat) : Int) > 24 → r0 = false) ∧ (¬ (((s0.size : Nat) : Int) > 24) → ((s0 = ({ data := #[109, 105, 110] } : ByteArray) → r0 = false) ∧ (¬ (s0 = ({ data := #[109, 105, 110] } : ByteArray)) → ((s0 = ({ data := #[109, 97, 120] } : ByteArray) → r0 = false) ∧ (¬ (s0 = ({ data := #[109, 97, 120] } : ByteArray)) → (Idx 0 s0.size) ∧ (((bt s0 0) < 97 → r0 = false) ∧ (¬ ((bt s0 0) < 97) → (((bt s0 0) > 122 → r0 = false) ∧ (¬ ((bt s0 0) > 122) → (∃ (trim1 : ByteArray), Ret Tryz.prog XS 80 [str s0, str ({ data := #[97, 98, 99, 100, 101, 102, 103, 104, 105, 106, 107, 108, 109, 110, 111, 112, 113, 114, 115, 116, 117, 118, 119, 120, 121, 122, 48, 49, 50, 51, 52, 53, 54, 55, 56, 57, 95] } : ByteArray)] (str trim1) ∧ r0 = (trim1.toList == ({ data := #[] } : ByteArray).toList))))))))))))))
theorem formula_name_W (s0 : ByteArray) (r0 : Bool) (h : formula_name_V s0 r0) : Ret Tryz.prog XS 77 [str s0] (boo r0) := by
  refine fn_rule Tryz.func77 (by kernel_rfl) (by kernel_rfl) (by kernel_rfl) (by kernel_rfl) ?_
  by_cases c1 : s0 = ({ data := #[] } : ByteArray)
  · have h := h.1 c1
    have g_1 := (abt (streq_t c1))
    rw [h]
    exact sr (ids := []) (vs := [boo false]) (mem := []) (ac g_1 (ac g_1 (ac g_1 (ac g_1 (ac abtt (ac abtt (ac abtt (ac abtt (ac abtt (ac abtt (ac abtt (ac abtt (ac abtt (ac abtt (ac abtt (ac abtt (ac abtt (ac abtt abtt)))))))))))))))))) (by kernel_rfl) (by kernel_rfl) (rts_sc rfl)
  · have h := h.2 c1
    have g_2 := (abf (streq_f c1))
    have e_3 := (ac g_2 (ac g_2 (ac (olens Tryz.prog 9 s0 (by kernel_rfl)) (ac g_2 g_2))))
    by_cases c2 : ((s0.size : Nat) : Int) > 24
    · have h := h.1 c2
      have g_4 := (abt (dec_t c2))
      rw [h]
      exact sr (ids := []) (vs := [boo false]) (mem := []) (ac e_3 (ac g_4 (ac g_4 (ac g_4 (ac abtt (ac abtt (ac abtt (ac abtt (ac abtt (ac abtt (ac abtt (ac abtt (ac abtt (ac abtt (ac abtt abtt))))))))))))))) (by kernel_rfl) (by kernel_rfl) (rts_sc rfl)
    · have h := h.2 c2
      have g_5 := (abf (dec_f c2))
      have e_6 := (ac g_5 (ac g_5 g_5))
      by_cases c3 : s0 = ({ data := #[109, 105, 110] } : ByteArray)
      · have h := h.1 c3
        have g_7 := (abt (streq_t c3))
        rw [h]
        exact sr (ids := []) (vs := [boo false]) (mem := []) (ac e_3 (ac e_6 (ac g_7 (ac g_7 (ac g_7 (ac abtt (ac abtt (ac abtt (ac abtt (ac abtt (ac abtt (ac abtt (ac abtt abtt))))))))))))) (by kernel_rfl) (by kernel_rfl) (rts_sc rfl)
      · have h := h.2 c3
        have g_8 := (abf (streq_f c3))
        have e_9 := (ac g_8 (ac g_8 g_8))
        by_cases c4 : s0 = ({ data := #[109, 97, 120] } : ByteArray)
        · have h := h.1 c4
          have g_10 := (abt (streq_t c4))
          rw [h]
          exact sr (ids := []) (vs := [boo false]) (mem := []) (ac e_3 (ac e_6 (ac e_9 (ac g_10 (ac g_10 (ac g_10 (ac g_10 (ac abtt (ac abtt (ac abtt (ac abtt abtt))))))))))) (by kernel_rfl) (by kernel_rfl) (rts_sc rfl)
        · have h := h.2 c4
          obtain ⟨c5, h⟩ := h
          have g_11 := (abf (streq_f c4))
          have e_12 := (ac g_11 (ac g_11 (ac (obtt c5) (ac g_11 g_11))))
          by_cases c6 : (bt s0 0) < 97
          · have h := h.1 c6
            have g_13 := (abt (dec_t c6))
            rw [h]
            exact sr (ids := []) (vs := [boo false]) (mem := []) (ac e_3 (ac e_6 (ac e_9 (ac e_12 (ac g_13 (ac g_13 (ac g_13 (ac g_13 abtt)))))))) (by kernel_rfl) (by kernel_rfl) (rts_sc rfl)
          · have h := h.2 c6
            have g_14 := (abf (dec_f c6))
            have e_15 := (ac g_14 (ac g_14 (ac (obtt c5) (ac g_14 g_14))))
            by_cases c7 : (bt s0 0) > 122
            · have h := h.1 c7
              rw [h]
              exact sr (ids := []) (vs := [boo false]) (mem := []) (ac e_3 (ac e_6 (ac e_9 (ac e_12 (ac e_15 (abt (dec_t c7))))))) (by kernel_rfl) (by kernel_rfl) (rts_sc rfl)
            · have h := h.2 c7
              obtain ⟨trim1, c8, h⟩ := h
              rw [h]
              exact sr (ids := []) (vs := [boo (trim1.toList == ({ data := #[] } : ByteArray).toList)]) (mem := []) (ac e_3 (ac e_6 (ac e_9 (ac e_12 (ac e_15 (ac (abf (dec_f c7)) (ocs c8))))))) (by kernel_rfl) (by kernel_rfl) (rts_sc rfl)

-- strings.Trim
abbrev strings_Trim_V (s0 : ByteArray) (r0 : ByteArray) : Prop := ((s0 = ({ data := #[] } : ByteArray) → r0 = s0) ∧ (¬ (s0 = ({ data := #[] } : ByteArray)) → ((({ data := #[97, 98, 99, 100, 101, 102, 103, 104, 105, 106, 107, 108, 109, 110, 111, 112, 113, 114, 115, 116, 117, 118, 119, 120, 121, 122, 48, 49, 50, 51, 52, 53, 54, 55, 56, 57, 95] } : ByteArray) = ({ data := #[] } : ByteArray) → r0 = s0) ∧ (¬ (({ data := #[97, 98, 99, 100, 101, 102, 103, 104, 105, 106, 107, 108, 109, 110, 111, 112, 113, 114, 115, 116, 117, 118, 119, 120, 121, 122, 48, 49, 50, 51, 52, 53, 54, 55, 56, 57, 95] } : ByteArray) = ({ data := #[] } : ByteArray)) → ((((({ data := #[97, 98, 99, 100, 101, 102, 103, 104, 105, 106, 107, 108, 109, 110, 111, 112, 113, 114, 115, 116, 117, 118, 119, 120, 121, 122, 48, 49, 50, 51, 52, 53, 54, 55, 56, 57, 95] } : ByteArray).size : Nat) : Int) = 1 → (Idx 0 ({ data := #[97, 98, 99, 100, 101, 102, 103, 104, 105, 106, 107, 108, 109, 110, 111, 112, 113, 114, 115, 116, 117, 118, 119, 120, 121, 122, 48, 49, 50, 51, 52, 53, 54, 55, 56, 57, 95] } : ByteArray).size) ∧ (((bt ({ data := #[97, 98, 99, 100, 101, 102, 103, 104, 105, 106, 107, 108, 109, 110, 111, 112, 113, 114, 115, 116, 117, 118, 119, 120, 121, 122, 48, 49, 50, 51, 52, 53, 54, 55, 56, 57, 95] } : ByteArray) 0) < 128 → (∃ (trimRightByte1 : ByteArray), Ret Tryz.prog XS 88 [str s0, .sc (.int .u8 (bt ({ data := #[97, 98, 99, 100, 101, 102, 103, 104, 105, 106, 107, 108, 109, 110, 111, 112, 113, 114, 115, 116, 117, 118, 119, 120, 121, 122, 48, 49, 50, 51, 52, 53, 54, 55, 56, 57, 95] } : ByteArray) 0))] (str trimRightByte1) ∧ (∃ (trimLeftByte2 : ByteArray), Ret Tryz.prog XS 87 [str trimRightByte1, .sc (.int .u8 (bt ({ data := #[97, 98, 99, 100, 101, 102, 103, 104, 105, 106, 107, 108, 109, 110, 111, 112, 113, 114, 115, 116, 117, 118, 119, 120, 121, 122, 48, 49, 50, 51, 52, 53, 54, 55, 56, 57, 95] } : ByteArray) 0))] (str trimLeftByte2) ∧ r0 = trimLeftByte2))) ∧ (¬ ((bt ({ data := #[97, 98, 99, 100, 101, 102, 103, 104, 105, 106, 107, 108, 109, 110, 111, 112, 113, 114, 115, 116, 117, 118, 119, 120, 121, 122, 48, 49, 50, 51, 52, 53, 54, 55, 56, 57, 95] } : ByteArray) 0) < 128) → (Ret Tryz.prog XS 89 [str ({ data := #[97, 98, 99, 100, 101, 102, 103, 104, 105, 106, 107, 108, 109, 110, 111, 112, 113, 114, 115, 116, 117, 118, 119, 120, 121, 122, 48, 49, 50, 51, 52, 53, 54, 55, 56, 57, 95] } : ByteArray)] (.tup [.agg setT, boo true]) ∧ (∃ (trimRightASCII1 : ByteArray), Ret Tryz.prog XS 91 [str s0, .ref setT] (str trimRightASCII1) ∧ (∃ (trimLeftASCII2 : ByteArray), Ret Tryz.prog XS 90 [str trimRightASCII1, .ref setT] (str trimLeftASCII2) ∧ r0 = trimLeftASCII2)))))) ∧ (¬ (((({ data := #[97, 98, 99, 100, 101, 102, 103, 104, 105, 106, 107, 108, 109, 110, 111, 112, 113, 114, 115, 116, 117, 118, 119, 120, 121, 122, 48, 49, 50, 51, 52, 53, 54, 55, 56, 57, 95] } : ByteArray).size : Nat) : Int) = 1) → (Ret Tryz.prog XS 89 [str ({ data := #[97, 98, 99, 100, 101, 102, 103, 104, 105, 106, 107, 108, 109, 110, 111, 112, 113, 114, 115, 116, 117, 118, 119, 120, 121, 122, 48, 49, 50, 51, 52, 53, 54, 55, 56, 57, 95] } : ByteArray)] (.tup [.agg setT, boo true]) ∧ (∃ (trimRightASCII1 : ByteArray), Ret Tryz.prog XS 91 [str s0, .ref setT] (str trimRightASCII1) ∧ (∃ (trimLeftASCII2 : ByteArray), Ret Tryz.prog XS 90 [str trimRightASCII1, .ref setT] (str trimLeftASCII2) ∧ r0 = trimLeftASCII2)))))))))
theorem strings_Trim_W (s0 : ByteArray) (r0 : ByteArray) (h : strings_Trim_V s0 r0) : Ret Tryz.prog XS 80 [str s0, str ({ data := #[97, 98, 99, 100, 101, 102, 103, 104, 105, 106, 107, 108, 109, 110, 111, 112, 113, 114, 115, 116, 117, 118, 119, 120, 121, 122, 48, 49, 50, 51, 52, 53, 54, 55, 56, 57, 95] } : ByteArray)] (str r0) := by
  refine fn_rule Tryz.func80 (by kernel_rfl) (by kernel_rfl) (by kernel_rfl) (by kernel_rfl) ?_
  by_cases c1 : s0 = ({ data := #[] } : ByteArray)
  · have h := h.1 c1
    have g_1 := (abt (streq_t c1))
    rw [h]
    exact sr (ids := []) (vs := [str s0]) (mem := []) (ac g_1 (ac g_1 (ac g_1 abtt))) (by kernel_rfl) (by kernel_rfl) (rts_sc rfl)
  · have h := h.2 c1
    have g_2 := (abf (streq_f c1))
    have e_3 := (ac g_2 (ac g_2 g_2))
    by_cases c2 : ({ data := #[97, 98, 99, 100, 101, 102, 103, 104, 105, 106, 107, 108, 109, 110, 111, 112, 113, 114, 115, 116, 117, 118, 119, 120, 121, 122, 48, 49, 50, 51, 52, 53, 54, 55, 56, 57, 95] } : ByteArray) = ({ data := #[] } : ByteArray)
    · have h := h.1 c2
      rw [h]
      exact sr (ids := []) (vs := [str s0]) (mem := []) (ac e_3 (abt (streq_t c2))) (by kernel_rfl) (by kernel_rfl) (rts_sc rfl)
    · have h := h.2 c2
      have e_4 := (ac (abf (streq_f c2)) (olens Tryz.prog 9 ({ data := #[97, 98, 99, 100, 101, 102, 103, 104, 105, 106, 107, 108, 109, 110, 111, 112, 113, 114, 115, 116, 117, 118, 119, 120, 121, 122, 48, 49, 50, 51, 52, 53, 54, 55, 56, 57, 95] } : ByteArray) (by kernel_rfl)))
      by_cases c3 : ((({ data := #[97, 98, 99, 100, 101, 102, 103, 104, 105, 106, 107, 108, 109, 110, 111, 112, 113, 114, 115, 116, 117, 118, 119, 120, 121, 122, 48, 49, 50, 51, 52, 53, 54, 55, 56, 57, 95] } : ByteArray).size : Nat) : Int) = 1
      · have h := h.1 c3
        obtain ⟨c4, h⟩ := h
        have g_5 := (abt (beq_t c3))
        have e_6 := (ac g_5 (ac g_5 (ac (obtt c4) (ac g_5 g_5))))
        by_cases c5 : (bt ({ data := #[97, 98, 99, 100, 101, 102, 103, 104, 105, 106, 107, 108, 109, 110, 111, 112, 113, 114, 115, 116, 117, 118, 119, 120, 121, 122, 48, 49, 50, 51, 52, 53, 54, 55, 56, 57, 95] } : ByteArray) 0) < 128
        · have h := h.1 c5
          obtain ⟨trimRightByte1, c6, trimLeftByte2, c7, h⟩ := h
          rw [h]
          exact sr (ids := []) (vs := [str trimLeftByte2]) (mem := []) (ac e_3 (ac e_4 (ac e_6 (ac (abt (dec_t c5)) (ac (obtt c4) (ac (ocs c6) (ac (obtt c4) (ocs c7)))))))) (by kernel_rfl) (by kernel_rfl) (rts_sc rfl)
        · have h := h.2 c5
          obtain ⟨c6, trimRightASCII1, c7, trimLeftASCII2, c8, h⟩ := h
          rw [h]
          exact sr (ids := []) (vs := [str trimLeftASCII2]) (mem := []) (ac e_3 (ac e_4 (ac e_6 (ac (abf (dec_f c5)) (ac (ocs c6) (ac abtt (ac (ocl [0] [(0, .box setT)] [str s0, .ptr 0 0 0] (as_cons (ArgTo.same rfl) (as_cons (at_ptr rfl (sames_to (by kernel_rfl))) as_nil)) c7) (ocl [0] [(0, .box setT)] [str trimRightASCII1, .ptr 0 0 0] (as_cons (ArgTo.same rfl) (as_cons (at_ptr rfl (sames_to (by kernel_rfl))) as_nil)) c8)))))))) (by kernel_rfl) (by kernel_rfl) (rts_sc rfl)
      · have h := h.2 c3
        obtain ⟨c4, trimRightASCII1, c5, trimLeftASCII2, c6, h⟩ := h
        have g_7 := (abf (beq_f c3))
        rw [h]
        exact sr (ids := []) (vs := [str trimLeftASCII2]) (mem := []) (ac e_3 (ac e_4 (ac g_7 (ac g_7 (ac g_7 (ac g_7 (ac abff (ac (ocs c4) (ac abtt (ac (ocl [0] [(0, .box setT)] [str s0, .ptr 0 0 0] (as_cons (ArgTo.same rfl) (as_cons (at_ptr rfl (sames_to (by kernel_rfl))) as_nil)) c5) (ocl [0] [(0, .box setT)] [str trimRightASCII1, .ptr 0 0 0] (as_cons (ArgTo.same rfl) (as_cons (at_ptr rfl (sames_to (by kernel_rfl))) as_nil)) c6))))))))))) (by kernel_rfl) (by kernel_rfl) (rts_sc rfl)

-- strings.trimRightASCII
def strings_trimRightASCII_S0 (s0 : ByteArray) (s0' : ByteArray) : AS := ⟨[(0, str s0'), (1, .ref setT)], [], 0⟩
abbrev strings_trimRightASCII_V (s0 : ByteArray) (r0 : ByteArray) (I0 : ByteArray → Prop) (M0 : ByteArray → Nat) : Prop := I0 s0
abbrev strings_trimRightASCII_V0 (s0 : ByteArray) (r0 : ByteArray) (I0 : ByteArray → Prop) (M0 : ByteArray → Nat) (s0' : ByteArray) : Prop := ((((s0'.size : Nat) : Int) > 0 → (InR (((s0'.size : Nat) : Int) - 1)) ∧ (Idx (((s0'.size : Nat) : Int) - 1) s0'.size) ∧ (∃ (contains1 : Bool), Ret Tryz.prog XS 103 [.ref setT, .sc (.int .u8 (bt s0' (((s0'.size : Nat) : Int) - 1)))] (boo contains1) ∧ ((contains1 = true → (Slc 0 (((s0'.size : Nat) : Int) - 1) s0'.size) ∧ I0 (s0'.extract (((0 : Nat) : Int) : Int).toNat ((((s0'.size : Nat) : Int) - 1) : Int).toNat) ∧ M0 (s0'.extract (((0 : Nat) : Int) : Int).toNat ((((s0'.size : Nat) : Int) - 1) : Int).toNat) < M0 s0') ∧ (contains1 = false → r0 = s0')))) ∧ (¬ (((s0'.size : Nat) : Int) > 0) → r0 = s0'))
theorem strings_trimRightASCII_W0 (s0 : ByteArray) (r0 : ByteArray) (I0 : ByteArray → Prop) (M0 : ByteArray → Nat) (h0 : ∀ (s0' : ByteArray), I0 s0' → strings_trimRightASCII_V0 s0 r0 I0 M0 s0') : ∀ (x : ByteArray), I0 x → loopQ Tryz.prog XS Tryz.f91 0 (str r0) [] (strings_trimRightASCII_S0 s0 x) := by
  intro x0 hx0
  refine loop_rule (fun (x : ByteArray) => I0 x) (fun (x : ByteArray) => M0 x) (fun (x : ByteArray) => strings_trimRightASCII_S0 s0 x) x0 hx0 ?_
  intro s0' hx
  have h := h0 s0' hx
  clear hx hx0 x0
  have g_1 := (olens Tryz.prog 9 s0' (by kernel_rfl))
  by_cases c1 : ((s0'.size : Nat) : Int) > 0
  · have h := h.1 c1
    obtain ⟨c2, c3, contains1, c4, h⟩ := h
    have g_2 := (osub Tryz.prog 3 (wi64 c2))
    have e_3 := (ac (abt (dec_t c1)) (ac g_1 (ac g_2 (ac (obtt c3) (ocs c4)))))
    rcases Bool.eq_false_or_eq_true contains1 with c5 | c5
    · have h := h.1 c5
      obtain ⟨c6, h⟩ := h
      exact sb (ts := [0, 1]) (ids := []) (d := 0) (s0 := ⟨[(0, str (s0'.extract (((0 : Nat) : Int) : Int).toNat ((((s0'.size : Nat) : Int) - 1) : Int).toNat)), (1, .ref setT)], [], 0⟩) (ac g_1 (ac e_3 (ac (abf (not_f c5)) (ac g_1 (ac g_2 (At.mk (allc (ob_scut c6) alln) : At [.val (str (s0'.extract (((0 : Nat) : Int) : Int).toNat ((((s0'.size : Nat) : Int) - 1) : Int).toNat))] [(0 : Int) ≤ ((0 : Nat) : Int) ∧ ((0 : Nat) : Int) ≤ (((s0'.size : Nat) : Int) - 1) ∧ (((s0'.size : Nat) : Int) - 1) ≤ ((s0'.size : Nat) : Int) ∧ (s0'.extract (((0 : Nat) : Int) : Int).toNat ((((s0'.size : Nat) : Int) - 1) : Int).toNat) = (s0'.extract (((0 : Nat) : Int) : Int).toNat ((((s0'.size : Nat) : Int) - 1) : Int).toNat)])))))) (by kernel_rfl) (by kernel_rfl) rfl (s0'.extract (((0 : Nat) : Int) : Int).toNat ((((s0'.size : Nat) : Int) - 1) : Int).toNat) h.1 h.2 (Weak.anew [] (by rfl) (wt_cons rfl wk_sc (wt_cons rfl wk_ref wt_nil)) wm_nil)
    · have h := h.2 c5
      rw [h]
      exact sr (ids := []) (vs := [str s0']) (mem := []) (ac g_1 (ac e_3 (abt (not_t c5)))) (by kernel_rfl) (by kernel_rfl) (rts_sc rfl)
  · have h := h.2 c1
    rw [h]
    exact sr (ids := []) (vs := [str s0']) (mem := []) (ac g_1 (abf (dec_f c1))) (by kernel_rfl) (by kernel_rfl) (rts_sc rfl)
theorem strings_trimRightASCII_W (s0 : ByteArray) (r0 : ByteArray) (I0 : ByteArray → Prop) (M0 : ByteArray → Nat) (h : strings_trimRightASCII_V s0 r0 I0 M0) (h0 : ∀ (s0' : ByteArray), I0 s0' → strings_trimRightASCII_V0 s0 r0 I0 M0 s0') : Ret Tryz.prog XS 91 [str s0, .ref setT] (str r0) := by
  refine fn_rule Tryz.func91 (by kernel_rfl) (by kernel_rfl) (by kernel_rfl) (by kernel_rfl) ?_
  exact sl (ts := [0, 1]) (ids := []) (d := 0) (s0 := ⟨[(0, str s0), (1, .ref setT)], [], 0⟩) az (by kernel_rfl) (by kernel_rfl) (Weak.anew [] (by rfl) (wt_cons rfl wk_sc (wt_cons rfl wk_ref wt_nil)) wm_nil) (strings_trimRightASCII_W0 s0 r0 I0 M0 h0 s0 h)

-- strings.trimLeftASCII
def strings_trimLeftASCII_S0 (s0 : ByteArray) (s0' : ByteArray) : AS := ⟨[(0, str s0'), (1, .ref setT)], [], 0⟩
abbrev strings_trimLeftASCII_V (s0 : ByteArray) (r0 : ByteArray) (I0 : ByteArray → Prop) (M0 : ByteArray → Nat) : Prop := I0 s0
abbrev strings_trimLeftASCII_V0 (s0 : ByteArray) (r0 : ByteArray) (I0 : ByteArray → Prop) (M0 : ByteArray → Nat) (s0' : ByteArray) : Prop := ((((s0'.size : Nat) : Int) > 0 → (Idx 0 s0'.size) ∧ (∃ (contains1 : Bool), Ret Tryz.prog XS 103 [.ref setT, .sc (.int .u8 (bt s0' 0))] (boo contains1) ∧ ((contains1 = true → (Slc 1 ((s0'.size : Nat) : Int) s0'.size) ∧ I0 (s0'.extract (1 : Int).toNat (((s0'.size : Nat) : Int) : Int).toNat) ∧ M0 (s0'.extract (1 : Int).toNat (((s0'.size : Nat) : Int) : Int).toNat) < M0 s0') ∧ (contains1 = false → r0 = s0')))) ∧ (¬ (((s0'.size : Nat) : Int) > 0) → r0 = s0'))
theorem strings_trimLeftASCII_W0 (s0 : ByteArray) (r0 : ByteArray) (I0 : ByteArray → Prop) (M0 : ByteArray → Nat) (h0 : ∀ (s0' : ByteArray), I0 s0' → strings_trimLeftASCII_V0 s0 r0 I0 M0 s0') : ∀ (x : ByteArray), I0 x → loopQ Tryz.prog XS Tryz.f90 0 (str r0) [] (strings_trimLeftASCII_S0 s0 x) := by
  intro x0 hx0
  refine loop_rule (fun (x : ByteArray) => I0 x) (fun (x : ByteArray) => M0 x) (fun (x : ByteArray) => strings_trimLeftASCII_S0 s0 x) x0 hx0 ?_
  intro s0' hx
  have h := h0 s0' hx
  clear hx hx0 x0
  have e_1 := (olens Tryz.prog 9 s0' (by kernel_rfl))
  by_cases c1 : ((s0'.size : Nat) : Int) > 0
  · have h := h.1 c1
    obtain ⟨c2, contains1, c3, h⟩ := h
    have e_2 := (ac (abt (dec_t c1)) (ac (obtt c2) (ocs c3)))
    rcases Bool.eq_false_or_eq_true contains1 with c4 | c4
    · have h := h.1 c4
      obtain ⟨c5, h⟩ := h
      exact sb (ts := [0, 1]) (ids := []) (d := 0) (s0 := ⟨[(0, str (s0'.extract (1 : Int).toNat (((s0'.size : Nat) : Int) : Int).toNat)), (1, .ref setT)], [], 0⟩) (ac e_1 (ac e_2 (ac (abf (not_f c4)) (At.mk (allc (ob_scut c5) alln) : At [.val (str (s0'.extract (1 : Int).toNat (((s0'.size : Nat) : Int) : Int).toNat))] [(0 : Int) ≤ 1 ∧ 1 ≤ ((s0'.size : Nat) : Int) ∧ ((s0'.size : Nat) : Int) ≤ ((s0'.size : Nat) : Int) ∧ (s0'.extract (1 : Int).toNat (((s0'.size : Nat) : Int) : Int).toNat) = (s0'.extract (1 : Int).toNat (((s0'.size : Nat) : Int) : Int).toNat)])))) (by kernel_rfl) (by kernel_rfl) rfl (s0'.extract (1 : Int).toNat (((s0'.size : Nat) : Int) : Int).toNat) h.1 h.2 (Weak.anew [] (by rfl) (wt_cons rfl wk_sc (wt_cons rfl wk_ref wt_nil)) wm_nil)
    · have h := h.2 c4
      rw [h]
      exact sr (ids := []) (vs := [str s0']) (mem := []) (ac e_1 (ac e_2 (abt (not_t c4)))) (by kernel_rfl) (by kernel_rfl) (rts_sc rfl)
  · have h := h.2 c1
    rw [h]
    exact sr (ids := []) (vs := [str s0']) (mem := []) (ac e_1 (abf (dec_f c1))) (by kernel_rfl) (by kernel_rfl) (rts_sc rfl)
theorem strings_trimLeftASCII_W (s0 : ByteArray) (r0 : ByteArray) (I0 : ByteArray → Prop) (M0 : ByteArray → Nat) (h : strings_trimLeftASCII_V s0 r0 I0 M0) (h0 : ∀ (s0' : ByteArray), I0 s0' → strings_trimLeftASCII_V0 s0 r0 I0 M0 s0') : Ret Tryz.prog XS 90 [str s0, .ref setT] (str r0) := by
  refine fn_rule Tryz.func90 (by kernel_rfl) (by kernel_rfl) (by kernel_rfl) (by kernel_rfl) ?_
  exact sl (ts := [0, 1]) (ids := []) (d := 0) (s0 := ⟨[(0, str s0), (1, .ref setT)], [], 0⟩) az (by kernel_rfl) (by kernel_rfl) (Weak.anew [] (by rfl) (wt_cons rfl wk_sc (wt_cons rfl wk_ref wt_nil)) wm_nil) (strings_trimLeftASCII_W0 s0 r0 I0 M0 h0 s0 h)

-- outline.edges$1
abbrev outline_edges_1_V (y : Edge) (e1 : Edge) (r0 : Bool) : Prop := r0 = (y.name.toList == e1.name.toList)
theorem outline_edges_1_W (y : Edge) (e1 : Edge) (r0 : Bool) (h : outline_edges_1_V y e1 r0) : Ret Tryz.prog XS 48 [.agg [str y.name, .sl 2 (y.line.map cSpot)], .ref [str e1.name, .sl 2 (e1.line.map cSpot)]] (boo r0) := by
  refine fn_rule Tryz.func48 (by kernel_rfl) (by kernel_rfl) (by kernel_rfl) (by kernel_rfl) ?_
  rw [h]
  exact sr (ids := []) (vs := [boo (y.name.toList == e1.name.toList)]) (mem := []) az (by kernel_rfl) (by kernel_rfl) (rts_sc rfl)

-- slices.ContainsFunc[[]api.Edge,api.Edge]
abbrev slices_ContainsFunc_api_Edge_api_Edge_V (s0 : List Edge) (e1 : Edge) (r0 : Bool) : Prop := (∃ (edge1 : Int), Ret Tryz.prog XS 59 [.sl 2 (s0.map cEdge), .fn 48 [] [.ref [str e1.name, .sl 2 (e1.line.map cSpot)]]] (int edge1) ∧ r0 = (decide (edge1 ≥ 0)))
theorem slices_ContainsFunc_api_Edge_api_Edge_W (s0 : List Edge) (e1 : Edge) (r0 : Bool) (h : slices_ContainsFunc_api_Edge_api_Edge_V s0 e1 r0) : Ret Tryz.prog XS 47 [.sl 2 (s0.map cEdge), .fn 48 [] [.ref [str e1.name, .sl 2 (e1.line.map cSpot)]]] (boo r0) := by
  refine fn_rule Tryz.func47 (by kernel_rfl) (by kernel_rfl) (by kernel_rfl) (by kernel_rfl) ?_
  obtain ⟨edge1, c1, h⟩ := h
  rw [h]
  exact sr (ids := []) (vs := [boo (decide (edge1 ≥ 0))]) (mem := []) (ocl [] [] [.sl 2 (s0.map cEdge), .fn 48 [] [.ref [str e1.name, .sl 2 (e1.line.map cSpot)]]] (as_cons (ArgTo.same rfl) (as_cons (at_fn as_nil (as_cons (ArgTo.same rfl) as_nil)) as_nil)) c1) (by kernel_rfl) (by kernel_rfl) (rts_sc rfl)

end Go.Ab
end
