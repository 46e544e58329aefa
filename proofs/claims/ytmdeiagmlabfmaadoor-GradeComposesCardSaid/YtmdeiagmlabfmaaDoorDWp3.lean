/- A part of the proof. Conditions: those of each theorem. -/
import Derived.Test.YtmdeiagmlabfmaaDoorDTy
import Derived.Test.YtmdeiagmlabfmaaDoorDX
set_option linter.unusedVariables false
set_option linter.unusedSimpArgs false
set_option linter.unusedSectionVars false

section
namespace Go.Ab
open Go.Proofs
set_option maxRecDepth 100000
set_option linter.unusedVariables false
attribute [local irreducible] todoQ
-- garmentlaw21.edge
-- garmentref21.Light
def garmentref21_Light_S0 (listappend : Piece) (a : Int) (v5 : Int) (v6 : Int) : AS := ⟨[(1, int a), (2, .ptr 0 0 0), (5, int v5), (6, int v6)], [(0, .box [str listappend.name, .sl 2 (listappend.edges.map cEdge), int listappend.grain, .sl 2 (listappend.notches.map cNotch), .sl 2 (listappend.corners.map cSpot), .sl 1 (listappend.widths.map cI), boo listappend.match_])], 1⟩
abbrev garmentref21_Light_V (listappend : Piece) (a : Int) (r0 : Bool) (I0 : Int → Int → Prop) (M0 : Int → Int → Nat) : Prop := ((((listappend.edges.length : Nat) : Int) > 20 → r0 = false) ∧ (¬ (((listappend.edges.length : Nat) : Int) > 20) → ((((listappend.corners.length : Nat) : Int) > 20 → r0 = false) ∧ (¬ (((listappend.corners.length : Nat) : Int) > 20) → ((((listappend.widths.length : Nat) : Int) > 20 → r0 = false) ∧ (¬ (((listappend.widths.length : Nat) : Int) > 20) → ((((listappend.notches.length : Nat) : Int) > 20 → r0 = false) ∧ (¬ (((listappend.notches.length : Nat) : Int) > 20) → I0 0 0))))))))
abbrev garmentref21_Light_V0 (listappend : Piece) (a : Int) (r0 : Bool) (I0 : Int → Int → Prop) (M0 : Int → Int → Nat) (v5 : Int) (v6 : Int) : Prop := ((v6 < ((listappend.edges.length : Nat) : Int) → (Idx v6 listappend.edges.length) ∧ ((((((ai listappend.edges v6).line).length : Nat) : Int) > a → r0 = false) ∧ (¬ (((((ai listappend.edges v6).line).length : Nat) : Int) > a) → ((((((ai listappend.edges v6).name).size : Nat) : Int) > 100 → r0 = false) ∧ (¬ (((((ai listappend.edges v6).name).size : Nat) : Int) > 100) → (InR (v5 + ((((ai listappend.edges v6).line).length : Nat) : Int))) ∧ (InR (v6 + 1)) ∧ I0 (v5 + ((((ai listappend.edges v6).line).length : Nat) : Int)) (v6 + 1) ∧ M0 (v5 + ((((ai listappend.edges v6).line).length : Nat) : Int)) (v6 + 1) < M0 v5 v6))))) ∧ (¬ (v6 < ((listappend.edges.length : Nat) : Int)) → r0 = (decide (v5 ≤ a))))
theorem garmentref21_Light_W0 (listappend : Piece) (a : Int) (r0 : Bool) (I0 : Int → Int → Prop) (M0 : Int → Int → Nat) (h0 : ∀ (v5 : Int) (v6 : Int), I0 v5 v6 → garmentref21_Light_V0 listappend a r0 I0 M0 v5 v6) : ∀ (x : Int × Int), I0 x.1 x.2 → loopQ Tryd.prog XS Tryd.f9 0 (boo r0) [] (garmentref21_Light_S0 listappend a x.1 x.2) := by
  intro x0 hx0
  refine loop_rule (fun (x : Int × Int) => I0 x.1 x.2) (fun (x : Int × Int) => M0 x.1 x.2) (fun (x : Int × Int) => garmentref21_Light_S0 listappend a x.1 x.2) x0 hx0 ?_
  rintro ⟨v5, v6⟩ hx
  have h := h0 v5 v6 hx
  clear hx hx0 x0
  have g_1 := (olen cEdge Tryd.prog 22 2 listappend.edges (by kernel_rfl))
  by_cases c1 : v6 < ((listappend.edges.length : Nat) : Int)
  · have h := h.1 c1
    obtain ⟨c2, h⟩ := h
    have g_2 := (abt (dec_t c1))
    have g_3 := (oidx cEdge c2)
    have g_4 := (olen cSpot Tryd.prog 24 2 ((ai listappend.edges v6).line) (by kernel_rfl))
    have e_5 := (ac g_2 (ac g_3 g_4))
    by_cases c3 : ((((ai listappend.edges v6).line).length : Nat) : Int) > a
    · have h := h.1 c3
      have g_6 := (abt (dec_t c3))
      rw [h]
      exact sr (ids := []) (vs := [boo false]) (mem := []) (ac g_1 (ac e_5 (ac g_6 (ac g_6 (ac g_6 (ac g_6 (ac g_6 (ac g_6 (ac g_6 (ac g_6 (ac g_6 abtt))))))))))) (by kernel_rfl) (by kernel_rfl) (rts_sc rfl)
    · have h := h.2 c3
      have g_7 := (abf (dec_f c3))
      have e_8 := (ac g_7 (ac g_7 (ac g_7 (ac g_7 (ac g_3 (ac g_7 (ac g_7 (ac g_7 (ac (olens Tryd.prog 9 ((ai listappend.edges v6).name) (by kernel_rfl)) (ac g_7 g_7))))))))))
      by_cases c4 : ((((ai listappend.edges v6).name).size : Nat) : Int) > 100
      · have h := h.1 c4
        have g_9 := (abt (dec_t c4))
        rw [h]
        exact sr (ids := []) (vs := [boo false]) (mem := []) (ac g_1 (ac e_5 (ac e_8 g_9))) (by kernel_rfl) (by kernel_rfl) (rts_sc rfl)
      · have h := h.2 c4
        obtain ⟨c5, c6, h⟩ := h
        have g_10 := (abf (dec_f c4))
        exact sb (ts := [1, 2, 5, 6]) (ids := [0]) (d := 0) (s0 := ⟨[(1, int a), (2, .ptr 0 0 0), (5, int (v5 + ((((ai listappend.edges v6).line).length : Nat) : Int))), (6, int (v6 + 1))], [(0, .box [str listappend.name, .sl 2 (listappend.edges.map cEdge), int listappend.grain, .sl 2 (listappend.notches.map cNotch), .sl 2 (listappend.corners.map cSpot), .sl 1 (listappend.widths.map cI), boo listappend.match_])], 1⟩) (ac g_1 (ac e_5 (ac e_8 (ac g_10 (ac g_3 (ac g_4 (ac (oadd Tryd.prog 3 (wi64 c5)) (oadd Tryd.prog 3 (wi64 c6))))))))) (by kernel_rfl) (by kernel_rfl) rfl ((v5 + ((((ai listappend.edges v6).line).length : Nat) : Int)), (v6 + 1)) h.1 h.2 (Weak.anew [(0, some 0)] (by rfl) (wt_cons rfl wk_sc (wt_cons rfl (wk_ptr rfl) (wt_cons rfl wk_sc (wt_cons rfl wk_sc wt_nil)))) (wm_box rfl rfl (wl_cons wk_sc (wl_cons wk_sl (wl_cons wk_sc (wl_cons wk_sl (wl_cons wk_sl (wl_cons wk_sl (wl_cons wk_sc wl_nil))))))) wm_nil))
  · have h := h.2 c1
    have g_11 := (abf (dec_f c1))
    rw [h]
    exact sr (ids := []) (vs := [boo (decide (v5 ≤ a))]) (mem := []) (ac g_1 g_11) (by kernel_rfl) (by kernel_rfl) (rts_sc rfl)
theorem garmentref21_Light_W (listappend : Piece) (a : Int) (r0 : Bool) (I0 : Int → Int → Prop) (M0 : Int → Int → Nat) (h : garmentref21_Light_V listappend a r0 I0 M0) (h0 : ∀ (v5 : Int) (v6 : Int), I0 v5 v6 → garmentref21_Light_V0 listappend a r0 I0 M0 v5 v6) : Ret Tryd.prog XS 9 [.agg [str listappend.name, .sl 2 (listappend.edges.map cEdge), int listappend.grain, .sl 2 (listappend.notches.map cNotch), .sl 2 (listappend.corners.map cSpot), .sl 1 (listappend.widths.map cI), boo listappend.match_], int a] (boo r0) := by
  refine fn_rule Tryd.func9 (by kernel_rfl) (by kernel_rfl) (by kernel_rfl) (by kernel_rfl) ?_
  have g_12 := (olen cEdge Tryd.prog 22 2 listappend.edges (by kernel_rfl))
  by_cases c1 : ((listappend.edges.length : Nat) : Int) > 20
  · have h := h.1 c1
    have g_13 := (abt (dec_t c1))
    rw [h]
    exact sr (ids := []) (vs := [boo false]) (mem := []) (ac g_12 (ac g_13 (ac g_13 (ac g_13 (ac g_13 (ac g_13 (ac abtt (ac abtt (ac abtt (ac abtt (ac abtt (ac abtt (ac abtt (ac abtt (ac abtt (ac abtt abtt)))))))))))))))) (by kernel_rfl) (by kernel_rfl) (rts_sc rfl)
  · have h := h.2 c1
    have g_14 := (abf (dec_f c1))
    have e_15 := (ac g_14 (ac g_14 (ac g_14 (ac (olen cSpot Tryd.prog 24 2 listappend.corners (by kernel_rfl)) (ac g_14 g_14)))))
    by_cases c2 : ((listappend.corners.length : Nat) : Int) > 20
    · have h := h.1 c2
      have g_16 := (abt (dec_t c2))
      rw [h]
      exact sr (ids := []) (vs := [boo false]) (mem := []) (ac g_12 (ac e_15 (ac g_16 (ac g_16 (ac g_16 (ac g_16 (ac g_16 (ac abtt (ac abtt (ac abtt (ac abtt (ac abtt abtt)))))))))))) (by kernel_rfl) (by kernel_rfl) (rts_sc rfl)
    · have h := h.2 c2
      have g_17 := (abf (dec_f c2))
      have e_18 := (ac g_17 (ac g_17 (ac g_17 (ac (olen cI Tryd.prog 25 1 listappend.widths (by kernel_rfl)) (ac g_17 g_17)))))
      by_cases c3 : ((listappend.widths.length : Nat) : Int) > 20
      · have h := h.1 c3
        have g_19 := (abt (dec_t c3))
        rw [h]
        exact sr (ids := []) (vs := [boo false]) (mem := []) (ac g_12 (ac e_15 (ac e_18 (ac g_19 (ac g_19 (ac g_19 (ac g_19 (ac g_19 abtt)))))))) (by kernel_rfl) (by kernel_rfl) (rts_sc rfl)
      · have h := h.2 c3
        have g_20 := (abf (dec_f c3))
        have e_21 := (ac g_20 (ac g_20 (ac g_20 (ac (olen cNotch Tryd.prog 23 2 listappend.notches (by kernel_rfl)) (ac g_20 g_20)))))
        by_cases c4 : ((listappend.notches.length : Nat) : Int) > 20
        · have h := h.1 c4
          have g_22 := (abt (dec_t c4))
          rw [h]
          exact sr (ids := []) (vs := [boo false]) (mem := []) (ac g_12 (ac e_15 (ac e_18 (ac e_21 g_22)))) (by kernel_rfl) (by kernel_rfl) (rts_sc rfl)
        · have h := h.2 c4
          have g_23 := (abf (dec_f c4))
          exact sl (ts := [1, 2, 5, 6]) (ids := [0]) (d := 0) (s0 := ⟨[(1, int a), (2, .ptr 0 0 0), (5, int 0), (6, int 0)], [(0, .box [str listappend.name, .sl 2 (listappend.edges.map cEdge), int listappend.grain, .sl 2 (listappend.notches.map cNotch), .sl 2 (listappend.corners.map cSpot), .sl 1 (listappend.widths.map cI), boo listappend.match_])], 1⟩) (ac g_12 (ac e_15 (ac e_18 (ac e_21 g_23)))) (by kernel_rfl) (by kernel_rfl) (Weak.anew [(0, some 0)] (by rfl) (wt_cons rfl wk_sc (wt_cons rfl (wk_ptr rfl) (wt_cons rfl wk_sc (wt_cons rfl wk_sc wt_nil)))) (wm_box rfl rfl (wl_cons wk_sc (wl_cons wk_sl (wl_cons wk_sc (wl_cons wk_sl (wl_cons wk_sl (wl_cons wk_sl (wl_cons wk_sc wl_nil))))))) wm_nil)) (garmentref21_Light_W0 listappend a r0 I0 M0 h0 (0, 0) h)

-- grade.Graded
end Go.Ab
end

section
namespace Go.Ab
open Go.Proofs
set_option maxRecDepth 100000
set_option linter.unusedVariables false
attribute [local irreducible] todoQ
-- grade.Turned
def grade_Turned_S0 (listappend : Piece) (a : Turn) (turned1 : List Edge) (v29 : Int) (w6 : List Spot) : AS := ⟨[(2, .ptr 0 0 0), (3, .ptr 1 0 0), (4, .ptr 2 0 0), (5, int ((listappend.edges.length : Nat) : Int)), (6, .ptr 3 0 0), (28, int ((listappend.corners.length : Nat) : Int)), (29, int v29)], [(0, .box [str listappend.name, .sl 2 (listappend.edges.map cEdge), int listappend.grain, .sl 2 (listappend.notches.map cNotch), .sl 2 (listappend.corners.map cSpot), .sl 1 (listappend.widths.map cI), boo listappend.match_]), (1, .box [boo a.flip, int a.quarter]), (2, .box [str ByteArray.empty, .nil, int 0, .nil, .nil, .nil, boo false]), (3, .box [str listappend.name, .own 4 0 turned1.length, int listappend.grain, .sl 2 (listappend.notches.map cNotch), .own 5 0 w6.length, .sl 1 (listappend.widths.map cI), boo listappend.match_]), (4, .row 2 (turned1.map cEdge)), (5, .row 2 (w6.map cSpot))], 6⟩
def grade_Turned_S1 (listappend : Piece) (a : Turn) (turned1 : List Edge) (w6 : List Spot) (v82 : Int) (w6' : List Int) : AS := ⟨[(2, .ptr 0 0 0), (4, .ptr 1 0 0), (5, int ((listappend.edges.length : Nat) : Int)), (6, .ptr 2 0 0), (81, int (((([] : List Int) ++ listappend.widths).length : Nat) : Int)), (82, int v82)], [(0, .box [str listappend.name, .sl 2 (listappend.edges.map cEdge), int listappend.grain, .sl 2 (listappend.notches.map cNotch), .sl 2 (listappend.corners.map cSpot), .sl 1 (listappend.widths.map cI), boo listappend.match_]), (1, .box [str ByteArray.empty, .nil, int 0, .nil, .nil, .nil, boo false]), (2, .box [str listappend.name, .own 3 0 turned1.length, int listappend.grain, .own 4 0 ((([] : List Notch) ++ listappend.notches).length), .own 5 0 w6.length, .own 6 0 w6'.length, boo listappend.match_]), (3, .row 2 (turned1.map cEdge)), (4, .row 2 ((([] : List Notch) ++ listappend.notches).map cNotch)), (5, .row 2 (w6.map cSpot)), (6, .row 1 (w6'.map cI))], 7⟩
def grade_Turned_S2 (listappend : Piece) (a : Turn) (turned1 : List Edge) (w6 : List Spot) (v102 : Int) (w6' : List Notch) (w6'' : List Int) : AS := ⟨[(2, .ptr 0 0 0), (4, .ptr 1 0 0), (6, .ptr 2 0 0), (100, .sl 2 (listappend.notches.map cNotch)), (101, int ((listappend.notches.length : Nat) : Int)), (102, int v102)], [(0, .box [str listappend.name, .sl 2 (listappend.edges.map cEdge), int listappend.grain, .sl 2 (listappend.notches.map cNotch), .sl 2 (listappend.corners.map cSpot), .sl 1 (listappend.widths.map cI), boo listappend.match_]), (1, .box [str ByteArray.empty, .nil, int 0, .nil, .nil, .nil, boo false]), (2, .box [str listappend.name, .own 3 0 turned1.length, int listappend.grain, .own 4 0 w6'.length, .own 5 0 w6.length, .own 6 0 w6''.length, boo listappend.match_]), (3, .row 2 (turned1.map cEdge)), (4, .row 2 (w6'.map cNotch)), (5, .row 2 (w6.map cSpot)), (6, .row 1 (w6''.map cI))], 7⟩
abbrev grade_Turned_V (listappend : Piece) (a : Turn) (r0 : Piece) (I0 : (List Edge) → Int → (List Spot) → Prop) (M0 : (List Edge) → Int → (List Spot) → Nat) (I1 : (List Edge) → (List Spot) → Int → (List Int) → Prop) (M1 : (List Edge) → (List Spot) → Int → (List Int) → Nat) (I2 : (List Edge) → (List Spot) → Int → (List Notch) → (List Int) → Prop) (M2 : (List Edge) → (List Spot) → Int → (List Notch) → (List Int) → Nat) : Prop := (∃ (turned1 : List Edge), Ret Tryd.prog XS 14 [.sl 2 (listappend.edges.map cEdge), .agg [boo a.flip, int a.quarter]] (.fr 2 (turned1.map cEdge)) ∧ (0 ≤ ((listappend.corners.length : Nat) : Int)) ∧ (((listappend.corners.length : Nat) : Int) * 16 ≤ 140737488355328) ∧ (((listappend.corners.length : Nat) : Int) ≤ 9223372036854775807) ∧ I0 turned1 0 (List.replicate (((listappend.corners.length : Nat) : Int) : Int).toNat (⟨0, 0⟩ : Spot)))
abbrev grade_Turned_V0 (listappend : Piece) (a : Turn) (r0 : Piece) (I0 : (List Edge) → Int → (List Spot) → Prop) (M0 : (List Edge) → Int → (List Spot) → Nat) (I1 : (List Edge) → (List Spot) → Int → (List Int) → Prop) (M1 : (List Edge) → (List Spot) → Int → (List Int) → Nat) (I2 : (List Edge) → (List Spot) → Int → (List Notch) → (List Int) → Prop) (M2 : (List Edge) → (List Spot) → Int → (List Notch) → (List Int) → Nat) (turned1 : List Edge) (v29 : Int) (w6 : List Spot) : Prop := ((v29 < ((listappend.corners.length : Nat) : Int) → ((a.flip = true → ((((listappend.corners.length : Nat) : Int) = ((listappend.edges.length : Nat) : Int) → (InR (((listappend.edges.length : Nat) : Int) - v29)) ∧ (InR ((((listappend.edges.length : Nat) : Int) - v29) + 1)) ∧ (((listappend.edges.length : Nat) : Int) ≠ 0) ∧ (Idx (((((listappend.edges.length : Nat) : Int) - v29) + 1).tmod ((listappend.edges.length : Nat) : Int)) listappend.corners.length) ∧ (∃ (apply1 : Spot), Ret Tryd.prog XS 29 [.agg [boo a.flip, int a.quarter], .agg [int ((ai listappend.corners (((((listappend.edges.length : Nat) : Int) - v29) + 1).tmod ((listappend.edges.length : Nat) : Int))).x), int ((ai listappend.corners (((((listappend.edges.length : Nat) : Int) - v29) + 1).tmod ((listappend.edges.length : Nat) : Int))).y)]] (.agg [int apply1.x, int apply1.y]) ∧ (Idx v29 w6.length) ∧ (InR (v29 + 1)) ∧ I0 turned1 (v29 + 1) (w6.set (v29 : Int).toNat apply1) ∧ M0 turned1 (v29 + 1) (w6.set (v29 : Int).toNat apply1) < M0 turned1 v29 w6)) ∧ (¬ (((listappend.corners.length : Nat) : Int) = ((listappend.edges.length : Nat) : Int)) → (Idx v29 listappend.corners.length) ∧ (∃ (apply1 : Spot), Ret Tryd.prog XS 29 [.agg [boo a.flip, int a.quarter], .agg [int ((ai listappend.corners v29).x), int ((ai listappend.corners v29).y)]] (.agg [int apply1.x, int apply1.y]) ∧ (Idx v29 w6.length) ∧ (InR (v29 + 1)) ∧ I0 turned1 (v29 + 1) (w6.set (v29 : Int).toNat apply1) ∧ M0 turned1 (v29 + 1) (w6.set (v29 : Int).toNat apply1) < M0 turned1 v29 w6)))) ∧ (a.flip = false → (Idx v29 listappend.corners.length) ∧ (∃ (apply1 : Spot), Ret Tryd.prog XS 29 [.agg [boo a.flip, int a.quarter], .agg [int ((ai listappend.corners v29).x), int ((ai listappend.corners v29).y)]] (.agg [int apply1.x, int apply1.y]) ∧ (Idx v29 w6.length) ∧ (InR (v29 + 1)) ∧ I0 turned1 (v29 + 1) (w6.set (v29 : Int).toNat apply1) ∧ M0 turned1 (v29 + 1) (w6.set (v29 : Int).toNat apply1) < M0 turned1 v29 w6)))) ∧ (¬ (v29 < ((listappend.corners.length : Nat) : Int)) → (Cap 8 (([] : List Int) ++ listappend.widths).length) ∧ (Cap 16 (([] : List Notch) ++ listappend.notches).length) ∧ ((a.flip = true → ((((listappend.widths.length : Nat) : Int) = ((listappend.edges.length : Nat) : Int) → I1 turned1 w6 0 (([] : List Int) ++ listappend.widths)) ∧ (¬ (((listappend.widths.length : Nat) : Int) = ((listappend.edges.length : Nat) : Int)) → I2 turned1 w6 0 (([] : List Notch) ++ listappend.notches) (([] : List Int) ++ listappend.widths)))) ∧ (a.flip = false → r0 = (⟨listappend.name, turned1, listappend.grain, (([] : List Notch) ++ listappend.notches), w6, (([] : List Int) ++ listappend.widths), listappend.match_⟩ : Piece)))))
abbrev grade_Turned_V1 (listappend : Piece) (a : Turn) (r0 : Piece) (I0 : (List Edge) → Int → (List Spot) → Prop) (M0 : (List Edge) → Int → (List Spot) → Nat) (I1 : (List Edge) → (List Spot) → Int → (List Int) → Prop) (M1 : (List Edge) → (List Spot) → Int → (List Int) → Nat) (I2 : (List Edge) → (List Spot) → Int → (List Notch) → (List Int) → Prop) (M2 : (List Edge) → (List Spot) → Int → (List Notch) → (List Int) → Nat) (turned1 : List Edge) (w6 : List Spot) (v82 : Int) (w6' : List Int) : Prop := ((v82 < (((([] : List Int) ++ listappend.widths).length : Nat) : Int) → (InR (((listappend.edges.length : Nat) : Int) - v82)) ∧ (((listappend.edges.length : Nat) : Int) ≠ 0) ∧ (Idx ((((listappend.edges.length : Nat) : Int) - v82).tmod ((listappend.edges.length : Nat) : Int)) listappend.widths.length) ∧ (Idx v82 w6'.length) ∧ (InR (v82 + 1)) ∧ I1 turned1 w6 (v82 + 1) (w6'.set (v82 : Int).toNat (ai listappend.widths ((((listappend.edges.length : Nat) : Int) - v82).tmod ((listappend.edges.length : Nat) : Int)))) ∧ M1 turned1 w6 (v82 + 1) (w6'.set (v82 : Int).toNat (ai listappend.widths ((((listappend.edges.length : Nat) : Int) - v82).tmod ((listappend.edges.length : Nat) : Int)))) < M1 turned1 w6 v82 w6') ∧ (¬ (v82 < (((([] : List Int) ++ listappend.widths).length : Nat) : Int)) → I2 turned1 w6 0 (([] : List Notch) ++ listappend.notches) w6'))
abbrev grade_Turned_V2 (listappend : Piece) (a : Turn) (r0 : Piece) (I0 : (List Edge) → Int → (List Spot) → Prop) (M0 : (List Edge) → Int → (List Spot) → Nat) (I1 : (List Edge) → (List Spot) → Int → (List Int) → Prop) (M1 : (List Edge) → (List Spot) → Int → (List Int) → Nat) (I2 : (List Edge) → (List Spot) → Int → (List Notch) → (List Int) → Prop) (M2 : (List Edge) → (List Spot) → Int → (List Notch) → (List Int) → Nat) (turned1 : List Edge) (w6 : List Spot) (v102 : Int) (w6' : List Notch) (w6'' : List Int) : Prop := ((v102 < ((listappend.notches.length : Nat) : Int) → (Idx v102 listappend.notches.length) ∧ (∃ (mirrored1 : Notch), Ret Tryd.prog XS 30 [.sl 2 (listappend.edges.map cEdge), .agg [int ((ai listappend.notches v102).edge), int ((ai listappend.notches v102).at_)]] (.agg [int mirrored1.edge, int mirrored1.at_]) ∧ (Idx v102 w6'.length) ∧ (InR (v102 + 1)) ∧ I2 turned1 w6 (v102 + 1) (w6'.set (v102 : Int).toNat mirrored1) w6'' ∧ M2 turned1 w6 (v102 + 1) (w6'.set (v102 : Int).toNat mirrored1) w6'' < M2 turned1 w6 v102 w6' w6'')) ∧ (¬ (v102 < ((listappend.notches.length : Nat) : Int)) → r0 = (⟨listappend.name, turned1, listappend.grain, w6', w6, w6'', listappend.match_⟩ : Piece)))
theorem grade_Turned_W2 (listappend : Piece) (a : Turn) (r0 : Piece) (I0 : (List Edge) → Int → (List Spot) → Prop) (M0 : (List Edge) → Int → (List Spot) → Nat) (I1 : (List Edge) → (List Spot) → Int → (List Int) → Prop) (M1 : (List Edge) → (List Spot) → Int → (List Int) → Nat) (I2 : (List Edge) → (List Spot) → Int → (List Notch) → (List Int) → Prop) (M2 : (List Edge) → (List Spot) → Int → (List Notch) → (List Int) → Nat) (h0 : ∀ (turned1 : List Edge) (v29 : Int) (w6 : List Spot), I0 turned1 v29 w6 → grade_Turned_V0 listappend a r0 I0 M0 I1 M1 I2 M2 turned1 v29 w6) (h1 : ∀ (turned1 : List Edge) (w6 : List Spot) (v82 : Int) (w6' : List Int), I1 turned1 w6 v82 w6' → grade_Turned_V1 listappend a r0 I0 M0 I1 M1 I2 M2 turned1 w6 v82 w6') (h2 : ∀ (turned1 : List Edge) (w6 : List Spot) (v102 : Int) (w6' : List Notch) (w6'' : List Int), I2 turned1 w6 v102 w6' w6'' → grade_Turned_V2 listappend a r0 I0 M0 I1 M1 I2 M2 turned1 w6 v102 w6' w6'') (turned1 : List Edge) (w6 : List Spot) : ∀ (x : Int × (List Notch) × (List Int)), I2 turned1 w6 x.1 x.2.1 x.2.2 → loopQ Tryd.prog XS Tryd.f12 2 (.agg [str r0.name, .fr 2 (r0.edges.map cEdge), int r0.grain, .fr 2 (r0.notches.map cNotch), .fr 2 (r0.corners.map cSpot), .fr 1 (r0.widths.map cI), boo r0.match_]) [] (grade_Turned_S2 listappend a turned1 w6 x.1 x.2.1 x.2.2) := by
  intro x0 hx0
  refine loop_rule (fun (x : Int × (List Notch) × (List Int)) => I2 turned1 w6 x.1 x.2.1 x.2.2) (fun (x : Int × (List Notch) × (List Int)) => M2 turned1 w6 x.1 x.2.1 x.2.2) (fun (x : Int × (List Notch) × (List Int)) => grade_Turned_S2 listappend a turned1 w6 x.1 x.2.1 x.2.2) x0 hx0 ?_
  rintro ⟨v102, w6', w6''⟩ hx
  have h := h2 turned1 w6 v102 w6' w6'' hx
  clear hx hx0 x0
  by_cases c1 : v102 < ((listappend.notches.length : Nat) : Int)
  · have h := h.1 c1
    obtain ⟨c2, mirrored1, c3, c4, c5, h⟩ := h
    have g_1 := (abt (dec_t c1))
    have g_2 := (oadd Tryd.prog 3 (wi64 c5))
    exact sb (ts := [2, 4, 6, 100, 101, 102]) (ids := [0, 1, 2, 3, 4, 5, 6]) (d := 0) (s0 := ⟨[(2, .ptr 0 0 0), (4, .ptr 1 0 0), (6, .ptr 2 0 0), (100, .sl 2 (listappend.notches.map cNotch)), (101, int ((listappend.notches.length : Nat) : Int)), (102, int (v102 + 1))], [(0, .box [str listappend.name, .sl 2 (listappend.edges.map cEdge), int listappend.grain, .sl 2 (listappend.notches.map cNotch), .sl 2 (listappend.corners.map cSpot), .sl 1 (listappend.widths.map cI), boo listappend.match_]), (1, .box [str ByteArray.empty, .nil, int 0, .nil, .nil, .nil, boo false]), (2, .box [str listappend.name, .own 3 0 turned1.length, int listappend.grain, .own 4 0 w6'.length, .own 5 0 w6.length, .own 6 0 w6''.length, boo listappend.match_]), (3, .row 2 (turned1.map cEdge)), (4, .row 2 ((w6'.set (v102 : Int).toNat mirrored1).map cNotch)), (5, .row 2 (w6.map cSpot)), (6, .row 1 (w6''.map cI))], 8⟩) (ac g_1 (ac (oidx cNotch c2) (ac (ocs c3) (ac (oown cNotch (n := w6'.length) rfl c4) (ac (oset cNotch mirrored1 c4) g_2))))) (by kernel_rfl) (by kernel_rfl) rfl ((v102 + 1), (w6'.set (v102 : Int).toNat mirrored1), w6'') h.1 h.2 (Weak.anew [(0, some 0), (1, some 1), (2, some 2), (3, some 3), (4, some 4), (5, some 5), (6, some 6)] (by rfl) (wt_cons rfl (wk_ptr rfl) (wt_cons rfl (wk_ptr rfl) (wt_cons rfl (wk_ptr rfl) (wt_cons rfl wk_sl (wt_cons rfl wk_sc (wt_cons rfl wk_sc wt_nil)))))) (wm_box rfl rfl (wl_cons wk_sc (wl_cons wk_sl (wl_cons wk_sc (wl_cons wk_sl (wl_cons wk_sl (wl_cons wk_sl (wl_cons wk_sc wl_nil))))))) (wm_box rfl rfl (wl_cons wk_sc (wl_cons wk_nil (wl_cons wk_sc (wl_cons wk_nil (wl_cons wk_nil (wl_cons wk_nil (wl_cons wk_sc wl_nil))))))) (wm_box rfl rfl (wl_cons wk_sc (wl_cons (wk_own rfl rfl) (wl_cons wk_sc (wl_cons (wk_own rfl (by simp)) (wl_cons (wk_own rfl rfl) (wl_cons (wk_own rfl rfl) (wl_cons wk_sc wl_nil))))))) (wm_row rfl rfl (wm_row rfl rfl (wm_row rfl rfl (wm_row rfl rfl wm_nil))))))))
  · have h := h.2 c1
    have g_3 := (abf (dec_f c1))
    rw [h]
    exact sr (ids := [3, 4, 5, 6]) (vs := [.agg [str listappend.name, .own 3 0 turned1.length, int listappend.grain, .own 4 0 w6'.length, .own 5 0 w6.length, .own 6 0 w6''.length, boo listappend.match_]]) (mem := [(3, .row 2 (turned1.map cEdge)), (4, .row 2 (w6'.map cNotch)), (5, .row 2 (w6.map cSpot)), (6, .row 1 (w6''.map cI))]) g_3 (by kernel_rfl) (by kernel_rfl) (rts_agg (rcs_sc (rcs_own rfl rfl rfl (rcs_sc (rcs_own rfl rfl rfl (rcs_own rfl rfl rfl (rcs_own rfl rfl rfl (rcs_sc (rcs_nil rfl)))))))))
theorem grade_Turned_W1 (listappend : Piece) (a : Turn) (r0 : Piece) (I0 : (List Edge) → Int → (List Spot) → Prop) (M0 : (List Edge) → Int → (List Spot) → Nat) (I1 : (List Edge) → (List Spot) → Int → (List Int) → Prop) (M1 : (List Edge) → (List Spot) → Int → (List Int) → Nat) (I2 : (List Edge) → (List Spot) → Int → (List Notch) → (List Int) → Prop) (M2 : (List Edge) → (List Spot) → Int → (List Notch) → (List Int) → Nat) (h0 : ∀ (turned1 : List Edge) (v29 : Int) (w6 : List Spot), I0 turned1 v29 w6 → grade_Turned_V0 listappend a r0 I0 M0 I1 M1 I2 M2 turned1 v29 w6) (h1 : ∀ (turned1 : List Edge) (w6 : List Spot) (v82 : Int) (w6' : List Int), I1 turned1 w6 v82 w6' → grade_Turned_V1 listappend a r0 I0 M0 I1 M1 I2 M2 turned1 w6 v82 w6') (h2 : ∀ (turned1 : List Edge) (w6 : List Spot) (v102 : Int) (w6' : List Notch) (w6'' : List Int), I2 turned1 w6 v102 w6' w6'' → grade_Turned_V2 listappend a r0 I0 M0 I1 M1 I2 M2 turned1 w6 v102 w6' w6'') (turned1 : List Edge) (w6 : List Spot) : ∀ (x : Int × (List Int)), I1 turned1 w6 x.1 x.2 → loopQ Tryd.prog XS Tryd.f12 1 (.agg [str r0.name, .fr 2 (r0.edges.map cEdge), int r0.grain, .fr 2 (r0.notches.map cNotch), .fr 2 (r0.corners.map cSpot), .fr 1 (r0.widths.map cI), boo r0.match_]) [] (grade_Turned_S1 listappend a turned1 w6 x.1 x.2) := by
  intro x0 hx0
  refine loop_rule (fun (x : Int × (List Int)) => I1 turned1 w6 x.1 x.2) (fun (x : Int × (List Int)) => M1 turned1 w6 x.1 x.2) (fun (x : Int × (List Int)) => grade_Turned_S1 listappend a turned1 w6 x.1 x.2) x0 hx0 ?_
  rintro ⟨v82, w6'⟩ hx
  have h := h1 turned1 w6 v82 w6' hx
  clear hx hx0 x0
  by_cases c1 : v82 < (((([] : List Int) ++ listappend.widths).length : Nat) : Int)
  · have h := h.1 c1
    obtain ⟨c2, c3, c4, c5, c6, h⟩ := h
    have g_4 := (abt (dec_t c1))
    have g_5 := (oadd Tryd.prog 3 (wi64 c6))
    exact sb (ts := [2, 4, 5, 6, 81, 82]) (ids := [0, 1, 2, 3, 4, 5, 6]) (d := 0) (s0 := ⟨[(2, .ptr 0 0 0), (4, .ptr 1 0 0), (5, int ((listappend.edges.length : Nat) : Int)), (6, .ptr 2 0 0), (81, int (((([] : List Int) ++ listappend.widths).length : Nat) : Int)), (82, int (v82 + 1))], [(0, .box [str listappend.name, .sl 2 (listappend.edges.map cEdge), int listappend.grain, .sl 2 (listappend.notches.map cNotch), .sl 2 (listappend.corners.map cSpot), .sl 1 (listappend.widths.map cI), boo listappend.match_]), (1, .box [str ByteArray.empty, .nil, int 0, .nil, .nil, .nil, boo false]), (2, .box [str listappend.name, .own 3 0 turned1.length, int listappend.grain, .own 4 0 ((([] : List Notch) ++ listappend.notches).length), .own 5 0 w6.length, .own 6 0 w6'.length, boo listappend.match_]), (3, .row 2 (turned1.map cEdge)), (4, .row 2 ((([] : List Notch) ++ listappend.notches).map cNotch)), (5, .row 2 (w6.map cSpot)), (6, .row 1 ((w6'.set (v82 : Int).toNat (ai listappend.widths ((((listappend.edges.length : Nat) : Int) - v82).tmod ((listappend.edges.length : Nat) : Int)))).map cI))], 7⟩) (ac g_4 (ac (osub Tryd.prog 3 (wi64 c2)) (ac (orem Tryd.prog 3 .i64 (((listappend.edges.length : Nat) : Int) - v82) ((listappend.edges.length : Nat) : Int) c3) (ac (oidx cI c4) (ac (oown cI (n := w6'.length) rfl c5) (ac (oset cI (ai listappend.widths ((((listappend.edges.length : Nat) : Int) - v82).tmod ((listappend.edges.length : Nat) : Int))) c5) g_5)))))) (by kernel_rfl) (by kernel_rfl) rfl ((v82 + 1), (w6'.set (v82 : Int).toNat (ai listappend.widths ((((listappend.edges.length : Nat) : Int) - v82).tmod ((listappend.edges.length : Nat) : Int))))) h.1 h.2 (Weak.anew [(0, some 0), (1, some 1), (2, some 2), (3, some 3), (4, some 4), (5, some 5), (6, some 6)] (by rfl) (wt_cons rfl (wk_ptr rfl) (wt_cons rfl (wk_ptr rfl) (wt_cons rfl wk_sc (wt_cons rfl (wk_ptr rfl) (wt_cons rfl wk_sc (wt_cons rfl wk_sc wt_nil)))))) (wm_box rfl rfl (wl_cons wk_sc (wl_cons wk_sl (wl_cons wk_sc (wl_cons wk_sl (wl_cons wk_sl (wl_cons wk_sl (wl_cons wk_sc wl_nil))))))) (wm_box rfl rfl (wl_cons wk_sc (wl_cons wk_nil (wl_cons wk_sc (wl_cons wk_nil (wl_cons wk_nil (wl_cons wk_nil (wl_cons wk_sc wl_nil))))))) (wm_box rfl rfl (wl_cons wk_sc (wl_cons (wk_own rfl rfl) (wl_cons wk_sc (wl_cons (wk_own rfl rfl) (wl_cons (wk_own rfl rfl) (wl_cons (wk_own rfl (by simp)) (wl_cons wk_sc wl_nil))))))) (wm_row rfl rfl (wm_row rfl rfl (wm_row rfl rfl (wm_row rfl rfl wm_nil))))))))
  · have h := h.2 c1
    have g_6 := (abf (dec_f c1))
    have g_7 := (olen cNotch Tryd.prog 23 2 listappend.notches (by kernel_rfl))
    exact sl (ts := [2, 4, 6, 100, 101, 102]) (ids := [0, 1, 2, 3, 4, 5, 6]) (d := 1) (s0 := ⟨[(2, .ptr 0 0 0), (4, .ptr 1 0 0), (6, .ptr 2 0 0), (100, .sl 2 (listappend.notches.map cNotch)), (101, int ((listappend.notches.length : Nat) : Int)), (102, int 0)], [(0, .box [str listappend.name, .sl 2 (listappend.edges.map cEdge), int listappend.grain, .sl 2 (listappend.notches.map cNotch), .sl 2 (listappend.corners.map cSpot), .sl 1 (listappend.widths.map cI), boo listappend.match_]), (1, .box [str ByteArray.empty, .nil, int 0, .nil, .nil, .nil, boo false]), (2, .box [str listappend.name, .own 3 0 turned1.length, int listappend.grain, .own 4 0 ((([] : List Notch) ++ listappend.notches).length), .own 5 0 w6.length, .own 6 0 w6'.length, boo listappend.match_]), (3, .row 2 (turned1.map cEdge)), (4, .row 2 ((([] : List Notch) ++ listappend.notches).map cNotch)), (5, .row 2 (w6.map cSpot)), (6, .row 1 (w6'.map cI))], 7⟩) (ac g_6 g_7) (by kernel_rfl) (by kernel_rfl) (Weak.anew [(0, some 0), (1, some 1), (2, some 2), (3, some 3), (4, some 4), (5, some 5), (6, some 6)] (by rfl) (wt_cons rfl (wk_ptr rfl) (wt_cons rfl (wk_ptr rfl) (wt_cons rfl (wk_ptr rfl) (wt_cons rfl wk_sl (wt_cons rfl wk_sc (wt_cons rfl wk_sc wt_nil)))))) (wm_box rfl rfl (wl_cons wk_sc (wl_cons wk_sl (wl_cons wk_sc (wl_cons wk_sl (wl_cons wk_sl (wl_cons wk_sl (wl_cons wk_sc wl_nil))))))) (wm_box rfl rfl (wl_cons wk_sc (wl_cons wk_nil (wl_cons wk_sc (wl_cons wk_nil (wl_cons wk_nil (wl_cons wk_nil (wl_cons wk_sc wl_nil))))))) (wm_box rfl rfl (wl_cons wk_sc (wl_cons (wk_own rfl rfl) (wl_cons wk_sc (wl_cons (wk_own rfl rfl) (wl_cons (wk_own rfl rfl) (wl_cons (wk_own rfl rfl) (wl_cons wk_sc wl_nil))))))) (wm_row rfl rfl (wm_row rfl rfl (wm_row rfl rfl (wm_row rfl rfl wm_nil)))))))) (grade_Turned_W2 listappend a r0 I0 M0 I1 M1 I2 M2 h0 h1 h2 turned1 w6 (0, (([] : List Notch) ++ listappend.notches), w6') h)
theorem grade_Turned_W0 (listappend : Piece) (a : Turn) (r0 : Piece) (I0 : (List Edge) → Int → (List Spot) → Prop) (M0 : (List Edge) → Int → (List Spot) → Nat) (I1 : (List Edge) → (List Spot) → Int → (List Int) → Prop) (M1 : (List Edge) → (List Spot) → Int → (List Int) → Nat) (I2 : (List Edge) → (List Spot) → Int → (List Notch) → (List Int) → Prop) (M2 : (List Edge) → (List Spot) → Int → (List Notch) → (List Int) → Nat) (h0 : ∀ (turned1 : List Edge) (v29 : Int) (w6 : List Spot), I0 turned1 v29 w6 → grade_Turned_V0 listappend a r0 I0 M0 I1 M1 I2 M2 turned1 v29 w6) (h1 : ∀ (turned1 : List Edge) (w6 : List Spot) (v82 : Int) (w6' : List Int), I1 turned1 w6 v82 w6' → grade_Turned_V1 listappend a r0 I0 M0 I1 M1 I2 M2 turned1 w6 v82 w6') (h2 : ∀ (turned1 : List Edge) (w6 : List Spot) (v102 : Int) (w6' : List Notch) (w6'' : List Int), I2 turned1 w6 v102 w6' w6'' → grade_Turned_V2 listappend a r0 I0 M0 I1 M1 I2 M2 turned1 w6 v102 w6' w6'') (turned1 : List Edge) : ∀ (x : Int × (List Spot)), I0 turned1 x.1 x.2 → loopQ Tryd.prog XS Tryd.f12 0 (.agg [str r0.name, .fr 2 (r0.edges.map cEdge), int r0.grain, .fr 2 (r0.notches.map cNotch), .fr 2 (r0.corners.map cSpot), .fr 1 (r0.widths.map cI), boo r0.match_]) [] (grade_Turned_S0 listappend a turned1 x.1 x.2) := by
  intro x0 hx0
  refine loop_rule (fun (x : Int × (List Spot)) => I0 turned1 x.1 x.2) (fun (x : Int × (List Spot)) => M0 turned1 x.1 x.2) (fun (x : Int × (List Spot)) => grade_Turned_S0 listappend a turned1 x.1 x.2) x0 hx0 ?_
  rintro ⟨v29, w6⟩ hx
  have h := h0 turned1 v29 w6 hx
  clear hx hx0 x0
  by_cases c1 : v29 < ((listappend.corners.length : Nat) : Int)
  · have h := h.1 c1
    have g_8 := (abt (dec_t c1))
    rcases Bool.eq_false_or_eq_true a.flip with c2 | c2
    · have h := h.1 c2
      have g_9 := (olen cSpot Tryd.prog 24 2 listappend.corners (by kernel_rfl))
      have e_10 := (ac (abt c2) (ac (abt c2) (ac (abt c2) (ac g_9 (ac (abt c2) (ac (abt c2) (abt c2)))))))
      by_cases c3 : ((listappend.corners.length : Nat) : Int) = ((listappend.edges.length : Nat) : Int)
      · have h := h.1 c3
        obtain ⟨c4, c5, c6, c7, apply1, c8, c9, c10, h⟩ := h
        have g_11 := (oadd Tryd.prog 3 (wi64 c5))
        exact sb (ts := [2, 3, 4, 5, 6, 28, 29]) (ids := [0, 1, 2, 3, 4, 5]) (d := 0) (s0 := ⟨[(2, .ptr 0 0 0), (3, .ptr 1 0 0), (4, .ptr 2 0 0), (5, int ((listappend.edges.length : Nat) : Int)), (6, .ptr 3 0 0), (28, int ((listappend.corners.length : Nat) : Int)), (29, int (v29 + 1))], [(0, .box [str listappend.name, .sl 2 (listappend.edges.map cEdge), int listappend.grain, .sl 2 (listappend.notches.map cNotch), .sl 2 (listappend.corners.map cSpot), .sl 1 (listappend.widths.map cI), boo listappend.match_]), (1, .box [boo a.flip, int a.quarter]), (2, .box [str ByteArray.empty, .nil, int 0, .nil, .nil, .nil, boo false]), (3, .box [str listappend.name, .own 4 0 turned1.length, int listappend.grain, .sl 2 (listappend.notches.map cNotch), .own 5 0 w6.length, .sl 1 (listappend.widths.map cI), boo listappend.match_]), (4, .row 2 (turned1.map cEdge)), (5, .row 2 ((w6.set (v29 : Int).toNat apply1).map cSpot))], 6⟩) (ac g_8 (ac e_10 (ac (abt (beq_t c3)) (ac (osub Tryd.prog 3 (wi64 c4)) (ac g_11 (ac (orem Tryd.prog 3 .i64 ((((listappend.edges.length : Nat) : Int) - v29) + 1) ((listappend.edges.length : Nat) : Int) c6) (ac (oidx cSpot c7) (ac (ocs c8) (ac (oown cSpot (n := w6.length) rfl c9) (ac (oset cSpot apply1 c9) (oadd Tryd.prog 3 (wi64 c10)))))))))))) (by kernel_rfl) (by kernel_rfl) rfl ((v29 + 1), (w6.set (v29 : Int).toNat apply1)) h.1 h.2 (Weak.anew [(0, some 0), (1, some 1), (2, some 2), (3, some 3), (4, some 4), (5, some 5)] (by rfl) (wt_cons rfl (wk_ptr rfl) (wt_cons rfl (wk_ptr rfl) (wt_cons rfl (wk_ptr rfl) (wt_cons rfl wk_sc (wt_cons rfl (wk_ptr rfl) (wt_cons rfl wk_sc (wt_cons rfl wk_sc wt_nil))))))) (wm_box rfl rfl (wl_cons wk_sc (wl_cons wk_sl (wl_cons wk_sc (wl_cons wk_sl (wl_cons wk_sl (wl_cons wk_sl (wl_cons wk_sc wl_nil))))))) (wm_box rfl rfl (wl_cons wk_sc (wl_cons wk_sc wl_nil)) (wm_box rfl rfl (wl_cons wk_sc (wl_cons wk_nil (wl_cons wk_sc (wl_cons wk_nil (wl_cons wk_nil (wl_cons wk_nil (wl_cons wk_sc wl_nil))))))) (wm_box rfl rfl (wl_cons wk_sc (wl_cons (wk_own rfl rfl) (wl_cons wk_sc (wl_cons wk_sl (wl_cons (wk_own rfl (by simp)) (wl_cons wk_sl (wl_cons wk_sc wl_nil))))))) (wm_row rfl rfl (wm_row rfl rfl wm_nil)))))))
      · have h := h.2 c3
        obtain ⟨c4, apply1, c5, c6, c7, h⟩ := h
        exact sb (ts := [2, 3, 4, 5, 6, 28, 29]) (ids := [0, 1, 2, 3, 4, 5]) (d := 0) (s0 := ⟨[(2, .ptr 0 0 0), (3, .ptr 1 0 0), (4, .ptr 2 0 0), (5, int ((listappend.edges.length : Nat) : Int)), (6, .ptr 3 0 0), (28, int ((listappend.corners.length : Nat) : Int)), (29, int (v29 + 1))], [(0, .box [str listappend.name, .sl 2 (listappend.edges.map cEdge), int listappend.grain, .sl 2 (listappend.notches.map cNotch), .sl 2 (listappend.corners.map cSpot), .sl 1 (listappend.widths.map cI), boo listappend.match_]), (1, .box [boo a.flip, int a.quarter]), (2, .box [str ByteArray.empty, .nil, int 0, .nil, .nil, .nil, boo false]), (3, .box [str listappend.name, .own 4 0 turned1.length, int listappend.grain, .sl 2 (listappend.notches.map cNotch), .own 5 0 w6.length, .sl 1 (listappend.widths.map cI), boo listappend.match_]), (4, .row 2 (turned1.map cEdge)), (5, .row 2 ((w6.set (v29 : Int).toNat apply1).map cSpot))], 6⟩) (ac g_8 (ac e_10 (ac (abf (beq_f c3)) (ac (oidx cSpot c4) (ac (ocs c5) (ac (oown cSpot (n := w6.length) rfl c6) (ac (oset cSpot apply1 c6) (oadd Tryd.prog 3 (wi64 c7))))))))) (by kernel_rfl) (by kernel_rfl) rfl ((v29 + 1), (w6.set (v29 : Int).toNat apply1)) h.1 h.2 (Weak.anew [(0, some 0), (1, some 1), (2, some 2), (3, some 3), (4, some 4), (5, some 5)] (by rfl) (wt_cons rfl (wk_ptr rfl) (wt_cons rfl (wk_ptr rfl) (wt_cons rfl (wk_ptr rfl) (wt_cons rfl wk_sc (wt_cons rfl (wk_ptr rfl) (wt_cons rfl wk_sc (wt_cons rfl wk_sc wt_nil))))))) (wm_box rfl rfl (wl_cons wk_sc (wl_cons wk_sl (wl_cons wk_sc (wl_cons wk_sl (wl_cons wk_sl (wl_cons wk_sl (wl_cons wk_sc wl_nil))))))) (wm_box rfl rfl (wl_cons wk_sc (wl_cons wk_sc wl_nil)) (wm_box rfl rfl (wl_cons wk_sc (wl_cons wk_nil (wl_cons wk_sc (wl_cons wk_nil (wl_cons wk_nil (wl_cons wk_nil (wl_cons wk_sc wl_nil))))))) (wm_box rfl rfl (wl_cons wk_sc (wl_cons (wk_own rfl rfl) (wl_cons wk_sc (wl_cons wk_sl (wl_cons (wk_own rfl (by simp)) (wl_cons wk_sl (wl_cons wk_sc wl_nil))))))) (wm_row rfl rfl (wm_row rfl rfl wm_nil)))))))
    · have h := h.2 c2
      obtain ⟨c3, apply1, c4, c5, c6, h⟩ := h
      have g_12 := (oadd Tryd.prog 3 (wi64 c6))
      exact sb (ts := [2, 3, 4, 5, 6, 28, 29]) (ids := [0, 1, 2, 3, 4, 5]) (d := 0) (s0 := ⟨[(2, .ptr 0 0 0), (3, .ptr 1 0 0), (4, .ptr 2 0 0), (5, int ((listappend.edges.length : Nat) : Int)), (6, .ptr 3 0 0), (28, int ((listappend.corners.length : Nat) : Int)), (29, int (v29 + 1))], [(0, .box [str listappend.name, .sl 2 (listappend.edges.map cEdge), int listappend.grain, .sl 2 (listappend.notches.map cNotch), .sl 2 (listappend.corners.map cSpot), .sl 1 (listappend.widths.map cI), boo listappend.match_]), (1, .box [boo a.flip, int a.quarter]), (2, .box [str ByteArray.empty, .nil, int 0, .nil, .nil, .nil, boo false]), (3, .box [str listappend.name, .own 4 0 turned1.length, int listappend.grain, .sl 2 (listappend.notches.map cNotch), .own 5 0 w6.length, .sl 1 (listappend.widths.map cI), boo listappend.match_]), (4, .row 2 (turned1.map cEdge)), (5, .row 2 ((w6.set (v29 : Int).toNat apply1).map cSpot))], 6⟩) (ac g_8 (ac (abf c2) (ac (abf c2) (ac (abf c2) (ac (abf c2) (ac (abf c2) (ac (abf c2) (ac abff (ac (oidx cSpot c3) (ac (ocs c4) (ac (oown cSpot (n := w6.length) rfl c5) (ac (oset cSpot apply1 c5) g_12)))))))))))) (by kernel_rfl) (by kernel_rfl) rfl ((v29 + 1), (w6.set (v29 : Int).toNat apply1)) h.1 h.2 (Weak.anew [(0, some 0), (1, some 1), (2, some 2), (3, some 3), (4, some 4), (5, some 5)] (by rfl) (wt_cons rfl (wk_ptr rfl) (wt_cons rfl (wk_ptr rfl) (wt_cons rfl (wk_ptr rfl) (wt_cons rfl wk_sc (wt_cons rfl (wk_ptr rfl) (wt_cons rfl wk_sc (wt_cons rfl wk_sc wt_nil))))))) (wm_box rfl rfl (wl_cons wk_sc (wl_cons wk_sl (wl_cons wk_sc (wl_cons wk_sl (wl_cons wk_sl (wl_cons wk_sl (wl_cons wk_sc wl_nil))))))) (wm_box rfl rfl (wl_cons wk_sc (wl_cons wk_sc wl_nil)) (wm_box rfl rfl (wl_cons wk_sc (wl_cons wk_nil (wl_cons wk_sc (wl_cons wk_nil (wl_cons wk_nil (wl_cons wk_nil (wl_cons wk_sc wl_nil))))))) (wm_box rfl rfl (wl_cons wk_sc (wl_cons (wk_own rfl rfl) (wl_cons wk_sc (wl_cons wk_sl (wl_cons (wk_own rfl (by simp)) (wl_cons wk_sl (wl_cons wk_sc wl_nil))))))) (wm_row rfl rfl (wm_row rfl rfl wm_nil)))))))
  · have h := h.2 c1
    obtain ⟨c2, c3, h⟩ := h
    have g_13 := (abf (dec_f c1))
    have e_14 := (ac g_13 (ac (oapp cI (n := ([] : List Int).length) rfl c2) (oapp cNotch (n := ([] : List Notch).length) rfl c3)))
    rcases Bool.eq_false_or_eq_true a.flip with c4 | c4
    · have h := h.1 c4
      have e_15 := (ac (abf (not_f c4)) (olen cI Tryd.prog 25 1 listappend.widths (by kernel_rfl)))
      by_cases c5 : ((listappend.widths.length : Nat) : Int) = ((listappend.edges.length : Nat) : Int)
      · have h := h.1 c5
        exact sl (ts := [2, 4, 5, 6, 81, 82]) (ids := [0, 2, 3, 4, 9, 5, 7]) (d := 1) (s0 := ⟨[(2, .ptr 0 0 0), (4, .ptr 2 0 0), (5, int ((listappend.edges.length : Nat) : Int)), (6, .ptr 3 0 0), (81, int (((([] : List Int) ++ listappend.widths).length : Nat) : Int)), (82, int 0)], [(0, .box [str listappend.name, .sl 2 (listappend.edges.map cEdge), int listappend.grain, .sl 2 (listappend.notches.map cNotch), .sl 2 (listappend.corners.map cSpot), .sl 1 (listappend.widths.map cI), boo listappend.match_]), (2, .box [str ByteArray.empty, .nil, int 0, .nil, .nil, .nil, boo false]), (3, .box [str listappend.name, .own 4 0 turned1.length, int listappend.grain, .own 9 0 ((([] : List Notch) ++ listappend.notches).length), .own 5 0 w6.length, .own 7 0 ((([] : List Int) ++ listappend.widths).length), boo listappend.match_]), (4, .row 2 (turned1.map cEdge)), (9, .row 2 ((([] : List Notch) ++ listappend.notches).map cNotch)), (5, .row 2 (w6.map cSpot)), (7, .row 1 ((([] : List Int) ++ listappend.widths).map cI))], 10⟩) (ac e_14 (ac e_15 (ac (abt (beq_t c5)) (oleno Tryd.prog 25 7 0 ((([] : List Int) ++ listappend.widths).length) (([] : List Int) ++ listappend.widths).length rfl (by kernel_rfl))))) (by kernel_rfl) (by kernel_rfl) (Weak.anew [(0, some 0), (1, some 2), (2, some 3), (3, some 4), (4, some 9), (5, some 5), (6, some 7)] (by rfl) (wt_cons rfl (wk_ptr rfl) (wt_cons rfl (wk_ptr rfl) (wt_cons rfl wk_sc (wt_cons rfl (wk_ptr rfl) (wt_cons rfl wk_sc (wt_cons rfl wk_sc wt_nil)))))) (wm_box rfl rfl (wl_cons wk_sc (wl_cons wk_sl (wl_cons wk_sc (wl_cons wk_sl (wl_cons wk_sl (wl_cons wk_sl (wl_cons wk_sc wl_nil))))))) (wm_box rfl rfl (wl_cons wk_sc (wl_cons wk_nil (wl_cons wk_sc (wl_cons wk_nil (wl_cons wk_nil (wl_cons wk_nil (wl_cons wk_sc wl_nil))))))) (wm_box rfl rfl (wl_cons wk_sc (wl_cons (wk_own rfl rfl) (wl_cons wk_sc (wl_cons (wk_own rfl rfl) (wl_cons (wk_own rfl rfl) (wl_cons (wk_own rfl rfl) (wl_cons wk_sc wl_nil))))))) (wm_row rfl rfl (wm_row rfl rfl (wm_row rfl rfl (wm_row rfl rfl wm_nil)))))))) (grade_Turned_W1 listappend a r0 I0 M0 I1 M1 I2 M2 h0 h1 h2 turned1 w6 (0, (([] : List Int) ++ listappend.widths)) h)
      · have h := h.2 c5
        have g_16 := (olen cNotch Tryd.prog 23 2 listappend.notches (by kernel_rfl))
        exact sl (ts := [2, 4, 6, 100, 101, 102]) (ids := [0, 2, 3, 4, 9, 5, 7]) (d := 1) (s0 := ⟨[(2, .ptr 0 0 0), (4, .ptr 2 0 0), (6, .ptr 3 0 0), (100, .sl 2 (listappend.notches.map cNotch)), (101, int ((listappend.notches.length : Nat) : Int)), (102, int 0)], [(0, .box [str listappend.name, .sl 2 (listappend.edges.map cEdge), int listappend.grain, .sl 2 (listappend.notches.map cNotch), .sl 2 (listappend.corners.map cSpot), .sl 1 (listappend.widths.map cI), boo listappend.match_]), (2, .box [str ByteArray.empty, .nil, int 0, .nil, .nil, .nil, boo false]), (3, .box [str listappend.name, .own 4 0 turned1.length, int listappend.grain, .own 9 0 ((([] : List Notch) ++ listappend.notches).length), .own 5 0 w6.length, .own 7 0 ((([] : List Int) ++ listappend.widths).length), boo listappend.match_]), (4, .row 2 (turned1.map cEdge)), (9, .row 2 ((([] : List Notch) ++ listappend.notches).map cNotch)), (5, .row 2 (w6.map cSpot)), (7, .row 1 ((([] : List Int) ++ listappend.widths).map cI))], 10⟩) (ac e_14 (ac e_15 (ac (abf (beq_f c5)) g_16))) (by kernel_rfl) (by kernel_rfl) (Weak.anew [(0, some 0), (1, some 2), (2, some 3), (3, some 4), (4, some 9), (5, some 5), (6, some 7)] (by rfl) (wt_cons rfl (wk_ptr rfl) (wt_cons rfl (wk_ptr rfl) (wt_cons rfl (wk_ptr rfl) (wt_cons rfl wk_sl (wt_cons rfl wk_sc (wt_cons rfl wk_sc wt_nil)))))) (wm_box rfl rfl (wl_cons wk_sc (wl_cons wk_sl (wl_cons wk_sc (wl_cons wk_sl (wl_cons wk_sl (wl_cons wk_sl (wl_cons wk_sc wl_nil))))))) (wm_box rfl rfl (wl_cons wk_sc (wl_cons wk_nil (wl_cons wk_sc (wl_cons wk_nil (wl_cons wk_nil (wl_cons wk_nil (wl_cons wk_sc wl_nil))))))) (wm_box rfl rfl (wl_cons wk_sc (wl_cons (wk_own rfl rfl) (wl_cons wk_sc (wl_cons (wk_own rfl rfl) (wl_cons (wk_own rfl rfl) (wl_cons (wk_own rfl rfl) (wl_cons wk_sc wl_nil))))))) (wm_row rfl rfl (wm_row rfl rfl (wm_row rfl rfl (wm_row rfl rfl wm_nil)))))))) (grade_Turned_W2 listappend a r0 I0 M0 I1 M1 I2 M2 h0 h1 h2 turned1 w6 (0, (([] : List Notch) ++ listappend.notches), (([] : List Int) ++ listappend.widths)) h)
    · have h := h.2 c4
      rw [h]
      exact sr (ids := [4, 9, 5, 7]) (vs := [.agg [str listappend.name, .own 4 0 turned1.length, int listappend.grain, .own 9 0 ((([] : List Notch) ++ listappend.notches).length), .own 5 0 w6.length, .own 7 0 ((([] : List Int) ++ listappend.widths).length), boo listappend.match_]]) (mem := [(4, .row 2 (turned1.map cEdge)), (9, .row 2 ((([] : List Notch) ++ listappend.notches).map cNotch)), (5, .row 2 (w6.map cSpot)), (7, .row 1 ((([] : List Int) ++ listappend.widths).map cI))]) (ac e_14 (abt (not_t c4))) (by kernel_rfl) (by kernel_rfl) (rts_agg (rcs_sc (rcs_own rfl rfl rfl (rcs_sc (rcs_own rfl rfl rfl (rcs_own rfl rfl rfl (rcs_own rfl rfl rfl (rcs_sc (rcs_nil rfl)))))))))
theorem grade_Turned_W (listappend : Piece) (a : Turn) (r0 : Piece) (I0 : (List Edge) → Int → (List Spot) → Prop) (M0 : (List Edge) → Int → (List Spot) → Nat) (I1 : (List Edge) → (List Spot) → Int → (List Int) → Prop) (M1 : (List Edge) → (List Spot) → Int → (List Int) → Nat) (I2 : (List Edge) → (List Spot) → Int → (List Notch) → (List Int) → Prop) (M2 : (List Edge) → (List Spot) → Int → (List Notch) → (List Int) → Nat) (h : grade_Turned_V listappend a r0 I0 M0 I1 M1 I2 M2) (h0 : ∀ (turned1 : List Edge) (v29 : Int) (w6 : List Spot), I0 turned1 v29 w6 → grade_Turned_V0 listappend a r0 I0 M0 I1 M1 I2 M2 turned1 v29 w6) (h1 : ∀ (turned1 : List Edge) (w6 : List Spot) (v82 : Int) (w6' : List Int), I1 turned1 w6 v82 w6' → grade_Turned_V1 listappend a r0 I0 M0 I1 M1 I2 M2 turned1 w6 v82 w6') (h2 : ∀ (turned1 : List Edge) (w6 : List Spot) (v102 : Int) (w6' : List Notch) (w6'' : List Int), I2 turned1 w6 v102 w6' w6'' → grade_Turned_V2 listappend a r0 I0 M0 I1 M1 I2 M2 turned1 w6 v102 w6' w6'') : Ret Tryd.prog XS 12 [.agg [str listappend.name, .sl 2 (listappend.edges.map cEdge), int listappend.grain, .sl 2 (listappend.notches.map cNotch), .sl 2 (listappend.corners.map cSpot), .sl 1 (listappend.widths.map cI), boo listappend.match_], .agg [boo a.flip, int a.quarter]] (.agg [str r0.name, .fr 2 (r0.edges.map cEdge), int r0.grain, .fr 2 (r0.notches.map cNotch), .fr 2 (r0.corners.map cSpot), .fr 1 (r0.widths.map cI), boo r0.match_]) := by
  refine fn_rule Tryd.func12 (by kernel_rfl) (by kernel_rfl) (by kernel_rfl) (by kernel_rfl) ?_
  obtain ⟨turned1, c1, c2, c3, c4, h⟩ := h
  have g_17 := (olen cSpot Tryd.prog 24 2 listappend.corners (by kernel_rfl))
  exact sl (ts := [2, 3, 4, 5, 6, 28, 29]) (ids := [0, 1, 2, 3, 4, 5]) (d := 0) (s0 := ⟨[(2, .ptr 0 0 0), (3, .ptr 1 0 0), (4, .ptr 2 0 0), (5, int ((listappend.edges.length : Nat) : Int)), (6, .ptr 3 0 0), (28, int ((listappend.corners.length : Nat) : Int)), (29, int 0)], [(0, .box [str listappend.name, .sl 2 (listappend.edges.map cEdge), int listappend.grain, .sl 2 (listappend.notches.map cNotch), .sl 2 (listappend.corners.map cSpot), .sl 1 (listappend.widths.map cI), boo listappend.match_]), (1, .box [boo a.flip, int a.quarter]), (2, .box [str ByteArray.empty, .nil, int 0, .nil, .nil, .nil, boo false]), (3, .box [str listappend.name, .own 4 0 ((turned1.map cEdge).length), int listappend.grain, .sl 2 (listappend.notches.map cNotch), .own 5 0 ((List.replicate (((listappend.corners.length : Nat) : Int) : Int).toNat (⟨0, 0⟩ : Spot)).length), .sl 1 (listappend.widths.map cI), boo listappend.match_]), (4, .row 2 (turned1.map cEdge)), (5, .row 2 ((List.replicate (((listappend.corners.length : Nat) : Int) : Int).toNat (⟨0, 0⟩ : Spot)).map cSpot))], 6⟩) (ac (olen cEdge Tryd.prog 22 2 listappend.edges (by kernel_rfl)) (ac (ocs c1) (ac g_17 (ac (omake cSpot (v := (⟨0, 0⟩ : Spot)) (z := [int 0, int 0]) (l := ((listappend.corners.length : Nat) : Int)) (b := 16) rfl c2 c3 c4) g_17)))) (by kernel_rfl) (by kernel_rfl) (Weak.anew [(0, some 0), (1, some 1), (2, some 2), (3, some 3), (4, some 4), (5, some 5)] (by rfl) (wt_cons rfl (wk_ptr rfl) (wt_cons rfl (wk_ptr rfl) (wt_cons rfl (wk_ptr rfl) (wt_cons rfl wk_sc (wt_cons rfl (wk_ptr rfl) (wt_cons rfl wk_sc (wt_cons rfl wk_sc wt_nil))))))) (wm_box rfl rfl (wl_cons wk_sc (wl_cons wk_sl (wl_cons wk_sc (wl_cons wk_sl (wl_cons wk_sl (wl_cons wk_sl (wl_cons wk_sc wl_nil))))))) (wm_box rfl rfl (wl_cons wk_sc (wl_cons wk_sc wl_nil)) (wm_box rfl rfl (wl_cons wk_sc (wl_cons wk_nil (wl_cons wk_sc (wl_cons wk_nil (wl_cons wk_nil (wl_cons wk_nil (wl_cons wk_sc wl_nil))))))) (wm_box rfl rfl (wl_cons wk_sc (wl_cons (wk_own rfl (List.length_map ..)) (wl_cons wk_sc (wl_cons wk_sl (wl_cons (wk_own rfl rfl) (wl_cons wk_sl (wl_cons wk_sc wl_nil))))))) (wm_row rfl rfl (wm_row rfl rfl wm_nil))))))) (grade_Turned_W0 listappend a r0 I0 M0 I1 M1 I2 M2 h0 h1 h2 turned1 (0, (List.replicate (((listappend.corners.length : Nat) : Int) : Int).toNat (⟨0, 0⟩ : Spot))) h)

end Go.Ab
end

section
namespace Go.Ab
open Go.Proofs
set_option maxRecDepth 100000
set_option linter.unusedVariables false
attribute [local irreducible] todoQ
-- garmentref21.SameEdges
def garmentref21_SameEdges_S0 (a : List Edge) (b : List Edge) (i5 : Int) : AS := ⟨[(0, .sl 2 (a.map cEdge)), (1, .sl 2 (b.map cEdge)), (5, int i5)], [], 0⟩
abbrev garmentref21_SameEdges_V (a : List Edge) (b : List Edge) (r0 : Bool) (I0 : Int → Prop) (M0 : Int → Nat) : Prop := ((((a.length : Nat) : Int) = ((b.length : Nat) : Int) → I0 0) ∧ (¬ (((a.length : Nat) : Int) = ((b.length : Nat) : Int)) → r0 = false))
abbrev garmentref21_SameEdges_V0 (a : List Edge) (b : List Edge) (r0 : Bool) (I0 : Int → Prop) (M0 : Int → Nat) (i5 : Int) : Prop := ((i5 < ((a.length : Nat) : Int) → (Idx i5 a.length) ∧ (Idx i5 b.length) ∧ (((ai a i5).name = (ai b i5).name → (∃ (same1 : Bool), Ret Tryd.prog XS 17 [.sl 2 (((ai a i5).line).map cSpot), .sl 2 (((ai b i5).line).map cSpot)] (boo same1) ∧ ((same1 = true → (InR (i5 + 1)) ∧ I0 (i5 + 1) ∧ M0 (i5 + 1) < M0 i5) ∧ (same1 = false → r0 = false)))) ∧ (¬ ((ai a i5).name = (ai b i5).name) → r0 = false))) ∧ (¬ (i5 < ((a.length : Nat) : Int)) → r0 = true))
theorem garmentref21_SameEdges_W0 (a : List Edge) (b : List Edge) (r0 : Bool) (I0 : Int → Prop) (M0 : Int → Nat) (h0 : ∀ (i5 : Int), I0 i5 → garmentref21_SameEdges_V0 a b r0 I0 M0 i5) : ∀ (x : Int), I0 x → loopQ Tryd.prog XS Tryd.f13 0 (boo r0) [] (garmentref21_SameEdges_S0 a b x) := by
  intro x0 hx0
  refine loop_rule (fun (x : Int) => I0 x) (fun (x : Int) => M0 x) (fun (x : Int) => garmentref21_SameEdges_S0 a b x) x0 hx0 ?_
  intro i5 hx
  have h := h0 i5 hx
  clear hx hx0 x0
  have g_1 := (olen cEdge Tryd.prog 22 2 a (by kernel_rfl))
  by_cases c1 : i5 < ((a.length : Nat) : Int)
  · have h := h.1 c1
    obtain ⟨c2, c3, h⟩ := h
    have g_2 := (oidx cEdge c2)
    have g_3 := (oidx cEdge c3)
    have e_4 := (ac (abt (dec_t c1)) (ac g_2 g_3))
    by_cases c4 : (ai a i5).name = (ai b i5).name
    · have h := h.1 c4
      obtain ⟨same1, c5, h⟩ := h
      have g_5 := (abf (not_f (streq_t c4)))
      have e_6 := (ac g_5 (ac g_5 (ac g_5 (ac g_2 (ac g_5 (ac g_5 (ac g_5 (ac g_5 (ac g_5 (ac g_3 (ac g_5 (ac g_5 (ac g_5 (ac (ocs c5) (ac g_5 g_5)))))))))))))))
      rcases Bool.eq_false_or_eq_true same1 with c6 | c6
      · have h := h.1 c6
        obtain ⟨c7, h⟩ := h
        exact sb (ts := [0, 1, 5]) (ids := []) (d := 0) (s0 := ⟨[(0, .sl 2 (a.map cEdge)), (1, .sl 2 (b.map cEdge)), (5, int (i5 + 1))], [], 0⟩) (ac g_1 (ac e_4 (ac e_6 (ac (abf (not_f c6)) (oadd Tryd.prog 3 (wi64 c7)))))) (by kernel_rfl) (by kernel_rfl) rfl (i5 + 1) h.1 h.2 (Weak.anew [] (by rfl) (wt_cons rfl wk_sl (wt_cons rfl wk_sl (wt_cons rfl wk_sc wt_nil))) wm_nil)
      · have h := h.2 c6
        rw [h]
        exact sr (ids := []) (vs := [boo false]) (mem := []) (ac g_1 (ac e_4 (ac e_6 (abt (not_t c6))))) (by kernel_rfl) (by kernel_rfl) (rts_sc rfl)
    · have h := h.2 c4
      have g_7 := (abt (not_t (streq_f c4)))
      rw [h]
      exact sr (ids := []) (vs := [boo false]) (mem := []) (ac g_1 (ac e_4 (ac g_7 (ac g_7 (ac g_7 (ac g_7 (ac g_7 (ac g_7 (ac g_7 (ac g_7 (ac g_7 (ac g_7 (ac g_7 (ac g_7 (ac g_7 abtt))))))))))))))) (by kernel_rfl) (by kernel_rfl) (rts_sc rfl)
  · have h := h.2 c1
    rw [h]
    exact sr (ids := []) (vs := [boo true]) (mem := []) (ac g_1 (abf (dec_f c1))) (by kernel_rfl) (by kernel_rfl) (rts_sc rfl)
theorem garmentref21_SameEdges_W (a : List Edge) (b : List Edge) (r0 : Bool) (I0 : Int → Prop) (M0 : Int → Nat) (h : garmentref21_SameEdges_V a b r0 I0 M0) (h0 : ∀ (i5 : Int), I0 i5 → garmentref21_SameEdges_V0 a b r0 I0 M0 i5) : Ret Tryd.prog XS 13 [.sl 2 (a.map cEdge), .sl 2 (b.map cEdge)] (boo r0) := by
  refine fn_rule Tryd.func13 (by kernel_rfl) (by kernel_rfl) (by kernel_rfl) (by kernel_rfl) ?_
  have g_8 := (olen cEdge Tryd.prog 22 2 a (by kernel_rfl))
  have e_9 := (ac g_8 (olen cEdge Tryd.prog 22 2 b (by kernel_rfl)))
  by_cases c1 : ((a.length : Nat) : Int) = ((b.length : Nat) : Int)
  · have h := h.1 c1
    exact sl (ts := [0, 1, 5]) (ids := []) (d := 0) (s0 := ⟨[(0, .sl 2 (a.map cEdge)), (1, .sl 2 (b.map cEdge)), (5, int 0)], [], 0⟩) (ac e_9 (abf (bne_f c1))) (by kernel_rfl) (by kernel_rfl) (Weak.anew [] (by rfl) (wt_cons rfl wk_sl (wt_cons rfl wk_sl (wt_cons rfl wk_sc wt_nil))) wm_nil) (garmentref21_SameEdges_W0 a b r0 I0 M0 h0 0 h)
  · have h := h.2 c1
    rw [h]
    exact sr (ids := []) (vs := [boo false]) (mem := []) (ac e_9 (abt (bne_t c1))) (by kernel_rfl) (by kernel_rfl) (rts_sc rfl)

-- outline.Turned
def outline_Turned_S0 (l : List Edge) (t1 : Turn) (out5 : List Edge) (v13 : Int) : AS := ⟨[(3, .ptr 0 0 0), (5, .own 1 0 out5.length), (11, .sl 2 (l.map cEdge)), (12, int ((l.length : Nat) : Int)), (13, int v13)], [(1, .row 2 (out5.map cEdge)), (0, .box [boo t1.flip, int t1.quarter])], 2⟩
abbrev outline_Turned_V (l : List Edge) (t1 : Turn) (r0 : List Edge) (I0 : (List Edge) → Int → Prop) (M0 : (List Edge) → Int → Nat) : Prop := (0 ≤ ((l.length : Nat) : Int)) ∧ (((l.length : Nat) : Int) * 40 ≤ 140737488355328) ∧ (((l.length : Nat) : Int) ≤ 9223372036854775807) ∧ I0 ([] : List Edge) 0
abbrev outline_Turned_V0 (l : List Edge) (t1 : Turn) (r0 : List Edge) (I0 : (List Edge) → Int → Prop) (M0 : (List Edge) → Int → Nat) (out5 : List Edge) (v13 : Int) : Prop := ((v13 < ((l.length : Nat) : Int) → (Idx v13 l.length) ∧ (∃ (poly1 : List Spot), Ret Tryd.prog XS 31 [.agg [boo t1.flip, int t1.quarter], .sl 2 (((ai l v13).line).map cSpot)] (.fr 2 (poly1.map cSpot)) ∧ (Cap 40 (out5 ++ ([(⟨(ai l v13).name, poly1⟩ : Edge)] : List Edge)).length) ∧ (InR (v13 + 1)) ∧ I0 (out5 ++ ([(⟨(ai l v13).name, poly1⟩ : Edge)] : List Edge)) (v13 + 1) ∧ M0 (out5 ++ ([(⟨(ai l v13).name, poly1⟩ : Edge)] : List Edge)) (v13 + 1) < M0 out5 v13)) ∧ (¬ (v13 < ((l.length : Nat) : Int)) → ((t1.flip = true → ((((out5.length : Nat) : Int) > 1 → ((0 : Int) ≤ 1 ∧ (1 : Int) < ((out5.length : Nat) : Int)) ∧ (MutOk ((1 : Int).toNat) ((((out5.length : Nat) : Int) - 1).toNat) out5.length) ∧ r0 = (turnd out5 ((1 : Int).toNat) ((((out5.length : Nat) : Int) - 1).toNat))) ∧ (¬ (((out5.length : Nat) : Int) > 1) → r0 = out5))) ∧ (t1.flip = false → r0 = out5))))
theorem outline_Turned_W0 (l : List Edge) (t1 : Turn) (r0 : List Edge) (I0 : (List Edge) → Int → Prop) (M0 : (List Edge) → Int → Nat) (h0 : ∀ (out5 : List Edge) (v13 : Int), I0 out5 v13 → outline_Turned_V0 l t1 r0 I0 M0 out5 v13) : ∀ (x : (List Edge) × Int), I0 x.1 x.2 → loopQ Tryd.prog XS Tryd.f14 0 (.fr 2 (r0.map cEdge)) [] (outline_Turned_S0 l t1 x.1 x.2) := by
  intro x0 hx0
  refine loop_rule (fun (x : (List Edge) × Int) => I0 x.1 x.2) (fun (x : (List Edge) × Int) => M0 x.1 x.2) (fun (x : (List Edge) × Int) => outline_Turned_S0 l t1 x.1 x.2) x0 hx0 ?_
  rintro ⟨out5, v13⟩ hx
  have h := h0 out5 v13 hx
  clear hx hx0 x0
  by_cases c1 : v13 < ((l.length : Nat) : Int)
  · have h := h.1 c1
    obtain ⟨c2, poly1, c3, c4, c5, h⟩ := h
    exact sb (ts := [3, 5, 11, 12, 13]) (ids := [5, 0]) (d := 0) (s0 := ⟨[(3, .ptr 0 0 0), (5, .own 5 0 ((out5 ++ ([(⟨(ai l v13).name, poly1⟩ : Edge)] : List Edge)).length)), (11, .sl 2 (l.map cEdge)), (12, int ((l.length : Nat) : Int)), (13, int (v13 + 1))], [(5, .row 2 ((out5 ++ ([(⟨(ai l v13).name, poly1⟩ : Edge)] : List Edge)).map cEdge)), (0, .box [boo t1.flip, int t1.quarter])], 6⟩) (ac (abt (dec_t c1)) (ac (oidx cEdge c2) (ac (ocs c3) (ac (ofz cSpot poly1 (n := (poly1.map cSpot).length) (List.length_map ..)) (ac (oappo cEdge (n := out5.length) (m := ([(⟨(ai l v13).name, poly1⟩ : Edge)] : List Edge).length) rfl rfl c4) (oadd Tryd.prog 3 (wi64 c5))))))) (by kernel_rfl) (by kernel_rfl) rfl ((out5 ++ ([(⟨(ai l v13).name, poly1⟩ : Edge)] : List Edge)), (v13 + 1)) h.1 h.2 (Weak.anew [(1, some 5), (0, some 0)] (by rfl) (wt_cons rfl (wk_ptr rfl) (wt_cons rfl (wk_own rfl rfl) (wt_cons rfl wk_sl (wt_cons rfl wk_sc (wt_cons rfl wk_sc wt_nil))))) (wm_row rfl rfl (wm_box rfl rfl (wl_cons wk_sc (wl_cons wk_sc wl_nil)) wm_nil)))
  · have h := h.2 c1
    have e_1 := (abf (dec_f c1))
    rcases Bool.eq_false_or_eq_true t1.flip with c2 | c2
    · have h := h.1 c2
      have e_2 := (ac (abt c2) (ac (abt c2) (ac (oleno Tryd.prog 22 1 0 out5.length out5.length rfl (by kernel_rfl)) (ac (abt c2) (abt c2)))))
      by_cases c3 : ((out5.length : Nat) : Int) > 1
      · have h := h.1 c3
        obtain ⟨c4, c5, h⟩ := h
        rw [h]
        exact sr (ids := [1]) (vs := [.own 1 0 out5.length]) (mem := [(1, .row 2 ((turnd out5 ((1 : Int).toNat) ((((out5.length : Nat) : Int) - 1).toNat)).map cEdge))]) (ac e_1 (ac e_2 (ac (abt (dec_t c3)) (ac (At.mk (allc (ob_osl rfl c4) alln) : At [.val (.own 1 ((1 : Int).toNat) ((((out5.length : Nat) : Int) - 1).toNat))] [(0 : Int) ≤ 1 ∧ 1 ≤ ((out5.length : Nat) : Int) ∧ ((out5.length : Nat) : Int) ≤ ((out5.length : Nat) : Int) ∧ 0 < (out5.map cEdge).length ∧ ((1 : Int) = 0 ∨ 1 < ((out5.length : Nat) : Int)) ∧ 0 + (1 : Int).toNat = (1 : Int).toNat ∧ (((out5.length : Nat) : Int) - 1).toNat = (((out5.length : Nat) : Int) - 1).toNat]) (At.mk (allc (ob_mut c5 xs_rev32) alln) : At [.mut ((turnd out5 ((1 : Int).toNat) ((((out5.length : Nat) : Int) - 1).toNat)).map cEdge)] [∃ ys, ((1 : Int).toNat) + ((((out5.length : Nat) : Int) - 1).toNat) ≤ (out5.map cEdge).length ∧ (0 < ((((out5.length : Nat) : Int) - 1).toNat) ∧ ((((out5.length : Nat) : Int) - 1).toNat) ≤ 9223372036854775807) ∧ Ret Tryd.prog XS 32 [.fr 2 (((out5.map cEdge).drop ((1 : Int).toNat)).take ((((out5.length : Nat) : Int) - 1).toNat))] (.fr 2 ys) ∧ (out5.map cEdge).take ((1 : Int).toNat) ++ ys ++ (out5.map cEdge).drop (((1 : Int).toNat) + ((((out5.length : Nat) : Int) - 1).toNat)) = ((turnd out5 ((1 : Int).toNat) ((((out5.length : Nat) : Int) - 1).toNat)).map cEdge)]))))) (by kernel_rfl) (by kernel_rfl) (rts_own (by simp) rfl rfl rfl)
      · have h := h.2 c3
        rw [h]
        exact sr (ids := [1]) (vs := [.own 1 0 out5.length]) (mem := [(1, .row 2 (out5.map cEdge))]) (ac e_1 (ac e_2 (abf (dec_f c3)))) (by kernel_rfl) (by kernel_rfl) (rts_own rfl rfl rfl rfl)
    · have h := h.2 c2
      rw [h]
      exact sr (ids := [1]) (vs := [.own 1 0 out5.length]) (mem := [(1, .row 2 (out5.map cEdge))]) (ac e_1 (ac (abf c2) (ac (abf c2) (ac (abf c2) (ac (abf c2) abff))))) (by kernel_rfl) (by kernel_rfl) (rts_own rfl rfl rfl rfl)
theorem outline_Turned_W (l : List Edge) (t1 : Turn) (r0 : List Edge) (I0 : (List Edge) → Int → Prop) (M0 : (List Edge) → Int → Nat) (h : outline_Turned_V l t1 r0 I0 M0) (h0 : ∀ (out5 : List Edge) (v13 : Int), I0 out5 v13 → outline_Turned_V0 l t1 r0 I0 M0 out5 v13) : Ret Tryd.prog XS 14 [.sl 2 (l.map cEdge), .agg [boo t1.flip, int t1.quarter]] (.fr 2 (r0.map cEdge)) := by
  refine fn_rule Tryd.func14 (by kernel_rfl) (by kernel_rfl) (by kernel_rfl) (by kernel_rfl) ?_
  obtain ⟨c1, c2, c3, h⟩ := h
  have g_3 := (olen cEdge Tryd.prog 22 2 l (by kernel_rfl))
  exact sl (ts := [3, 5, 11, 12, 13]) (ids := [1, 0]) (d := 0) (s0 := ⟨[(3, .ptr 0 0 0), (5, .own 1 0 (([] : List Edge).length)), (11, .sl 2 (l.map cEdge)), (12, int ((l.length : Nat) : Int)), (13, int 0)], [(1, .row 2 (([] : List Edge).map cEdge)), (0, .box [boo t1.flip, int t1.quarter])], 2⟩) (ac g_3 (ac (At.mk (allc (ob_make0 c1 c2 c3) alln) : At [.rows ([] : List Edge).length (([] : List Edge).map cEdge)] [(0 : Int) ≤ ((l.length : Nat) : Int) ∧ (0 : Int) ≤ 0 ∧ ((l.length : Nat) : Int) * 40 ≤ (lim : Int) ∧ ((l.length : Nat) : Int) ≤ 9223372036854775807 ∧ (0 : Int).toNat = ([] : List Edge).length ∧ List.replicate ([] : List Edge).length [str ByteArray.empty, .nil] = (([] : List Edge).map cEdge)]) g_3)) (by kernel_rfl) (by kernel_rfl) (Weak.anew [(1, some 1), (0, some 0)] (by rfl) (wt_cons rfl (wk_ptr rfl) (wt_cons rfl (wk_own rfl rfl) (wt_cons rfl wk_sl (wt_cons rfl wk_sc (wt_cons rfl wk_sc wt_nil))))) (wm_row rfl rfl (wm_box rfl rfl (wl_cons wk_sc (wl_cons wk_sc wl_nil)) wm_nil))) (outline_Turned_W0 l t1 r0 I0 M0 h0 (([] : List Edge), 0) h)

-- grade.Areas
-- garmentref21.SameInts
def garmentref21_SameInts_S0 (a : List Int) (b : List Int) (i5 : Int) : AS := ⟨[(0, .sl 1 (a.map cI)), (1, .sl 1 (b.map cI)), (5, int i5)], [], 0⟩
abbrev garmentref21_SameInts_V (a : List Int) (b : List Int) (r0 : Bool) (I0 : Int → Prop) (M0 : Int → Nat) : Prop := ((((a.length : Nat) : Int) = ((b.length : Nat) : Int) → I0 0) ∧ (¬ (((a.length : Nat) : Int) = ((b.length : Nat) : Int)) → r0 = false))
abbrev garmentref21_SameInts_V0 (a : List Int) (b : List Int) (r0 : Bool) (I0 : Int → Prop) (M0 : Int → Nat) (i5 : Int) : Prop := ((i5 < ((a.length : Nat) : Int) → (Idx i5 a.length) ∧ (Idx i5 b.length) ∧ (((ai a i5) = (ai b i5) → (InR (i5 + 1)) ∧ I0 (i5 + 1) ∧ M0 (i5 + 1) < M0 i5) ∧ (¬ ((ai a i5) = (ai b i5)) → r0 = false))) ∧ (¬ (i5 < ((a.length : Nat) : Int)) → r0 = true))
theorem garmentref21_SameInts_W0 (a : List Int) (b : List Int) (r0 : Bool) (I0 : Int → Prop) (M0 : Int → Nat) (h0 : ∀ (i5 : Int), I0 i5 → garmentref21_SameInts_V0 a b r0 I0 M0 i5) : ∀ (x : Int), I0 x → loopQ Tryd.prog XS Tryd.f16 0 (boo r0) [] (garmentref21_SameInts_S0 a b x) := by
  intro x0 hx0
  refine loop_rule (fun (x : Int) => I0 x) (fun (x : Int) => M0 x) (fun (x : Int) => garmentref21_SameInts_S0 a b x) x0 hx0 ?_
  intro i5 hx
  have h := h0 i5 hx
  clear hx hx0 x0
  have g_1 := (olen cI Tryd.prog 25 1 a (by kernel_rfl))
  by_cases c1 : i5 < ((a.length : Nat) : Int)
  · have h := h.1 c1
    obtain ⟨c2, c3, h⟩ := h
    have e_2 := (ac (abt (dec_t c1)) (ac (oidx cI c2) (oidx cI c3)))
    by_cases c4 : (ai a i5) = (ai b i5)
    · have h := h.1 c4
      obtain ⟨c5, h⟩ := h
      exact sb (ts := [0, 1, 5]) (ids := []) (d := 0) (s0 := ⟨[(0, .sl 1 (a.map cI)), (1, .sl 1 (b.map cI)), (5, int (i5 + 1))], [], 0⟩) (ac g_1 (ac e_2 (ac (abf (bne_f c4)) (oadd Tryd.prog 3 (wi64 c5))))) (by kernel_rfl) (by kernel_rfl) rfl (i5 + 1) h.1 h.2 (Weak.anew [] (by rfl) (wt_cons rfl wk_sl (wt_cons rfl wk_sl (wt_cons rfl wk_sc wt_nil))) wm_nil)
    · have h := h.2 c4
      rw [h]
      exact sr (ids := []) (vs := [boo false]) (mem := []) (ac g_1 (ac e_2 (abt (bne_t c4)))) (by kernel_rfl) (by kernel_rfl) (rts_sc rfl)
  · have h := h.2 c1
    rw [h]
    exact sr (ids := []) (vs := [boo true]) (mem := []) (ac g_1 (abf (dec_f c1))) (by kernel_rfl) (by kernel_rfl) (rts_sc rfl)
theorem garmentref21_SameInts_W (a : List Int) (b : List Int) (r0 : Bool) (I0 : Int → Prop) (M0 : Int → Nat) (h : garmentref21_SameInts_V a b r0 I0 M0) (h0 : ∀ (i5 : Int), I0 i5 → garmentref21_SameInts_V0 a b r0 I0 M0 i5) : Ret Tryd.prog XS 16 [.sl 1 (a.map cI), .sl 1 (b.map cI)] (boo r0) := by
  refine fn_rule Tryd.func16 (by kernel_rfl) (by kernel_rfl) (by kernel_rfl) (by kernel_rfl) ?_
  have g_3 := (olen cI Tryd.prog 25 1 a (by kernel_rfl))
  have e_4 := (ac g_3 (olen cI Tryd.prog 25 1 b (by kernel_rfl)))
  by_cases c1 : ((a.length : Nat) : Int) = ((b.length : Nat) : Int)
  · have h := h.1 c1
    exact sl (ts := [0, 1, 5]) (ids := []) (d := 0) (s0 := ⟨[(0, .sl 1 (a.map cI)), (1, .sl 1 (b.map cI)), (5, int 0)], [], 0⟩) (ac e_4 (abf (bne_f c1))) (by kernel_rfl) (by kernel_rfl) (Weak.anew [] (by rfl) (wt_cons rfl wk_sl (wt_cons rfl wk_sl (wt_cons rfl wk_sc wt_nil))) wm_nil) (garmentref21_SameInts_W0 a b r0 I0 M0 h0 0 h)
  · have h := h.2 c1
    rw [h]
    exact sr (ids := []) (vs := [boo false]) (mem := []) (ac e_4 (abt (bne_t c1))) (by kernel_rfl) (by kernel_rfl) (rts_sc rfl)

-- garmentref11.Same
def garmentref11_Same_S0 (a : List Spot) (b : List Spot) (i5 : Int) : AS := ⟨[(0, .sl 2 (a.map cSpot)), (1, .sl 2 (b.map cSpot)), (5, int i5)], [], 0⟩
abbrev garmentref11_Same_V (a : List Spot) (b : List Spot) (r0 : Bool) (I0 : Int → Prop) (M0 : Int → Nat) : Prop := ((((a.length : Nat) : Int) = ((b.length : Nat) : Int) → I0 0) ∧ (¬ (((a.length : Nat) : Int) = ((b.length : Nat) : Int)) → r0 = false))
abbrev garmentref11_Same_V0 (a : List Spot) (b : List Spot) (r0 : Bool) (I0 : Int → Prop) (M0 : Int → Nat) (i5 : Int) : Prop := ((i5 < ((a.length : Nat) : Int) → (Idx i5 a.length) ∧ (Idx i5 b.length) ∧ (((ai a i5) = (ai b i5) → (InR (i5 + 1)) ∧ I0 (i5 + 1) ∧ M0 (i5 + 1) < M0 i5) ∧ (¬ ((ai a i5) = (ai b i5)) → r0 = false))) ∧ (¬ (i5 < ((a.length : Nat) : Int)) → r0 = true))
theorem garmentref11_Same_W0 (a : List Spot) (b : List Spot) (r0 : Bool) (I0 : Int → Prop) (M0 : Int → Nat) (h0 : ∀ (i5 : Int), I0 i5 → garmentref11_Same_V0 a b r0 I0 M0 i5) : ∀ (x : Int), I0 x → loopQ Tryd.prog XS Tryd.f17 0 (boo r0) [] (garmentref11_Same_S0 a b x) := by
  intro x0 hx0
  refine loop_rule (fun (x : Int) => I0 x) (fun (x : Int) => M0 x) (fun (x : Int) => garmentref11_Same_S0 a b x) x0 hx0 ?_
  intro i5 hx
  have h := h0 i5 hx
  clear hx hx0 x0
  have g_1 := (olen cSpot Tryd.prog 24 2 a (by kernel_rfl))
  by_cases c1 : i5 < ((a.length : Nat) : Int)
  · have h := h.1 c1
    obtain ⟨c2, c3, h⟩ := h
    have e_2 := (ac (abt (dec_t c1)) (ac (oidx cSpot c2) (oidx cSpot c3)))
    by_cases c4 : (ai a i5) = (ai b i5)
    · have h := h.1 c4
      obtain ⟨c5, h⟩ := h
      exact sb (ts := [0, 1, 5]) (ids := []) (d := 0) (s0 := ⟨[(0, .sl 2 (a.map cSpot)), (1, .sl 2 (b.map cSpot)), (5, int (i5 + 1))], [], 0⟩) (ac g_1 (ac e_2 (ac (abf (not_f (sSpot_t c4))) (oadd Tryd.prog 3 (wi64 c5))))) (by kernel_rfl) (by kernel_rfl) rfl (i5 + 1) h.1 h.2 (Weak.anew [] (by rfl) (wt_cons rfl wk_sl (wt_cons rfl wk_sl (wt_cons rfl wk_sc wt_nil))) wm_nil)
    · have h := h.2 c4
      rw [h]
      exact sr (ids := []) (vs := [boo false]) (mem := []) (ac g_1 (ac e_2 (abt (not_t (sSpot_f c4))))) (by kernel_rfl) (by kernel_rfl) (rts_sc rfl)
  · have h := h.2 c1
    rw [h]
    exact sr (ids := []) (vs := [boo true]) (mem := []) (ac g_1 (abf (dec_f c1))) (by kernel_rfl) (by kernel_rfl) (rts_sc rfl)
theorem garmentref11_Same_W (a : List Spot) (b : List Spot) (r0 : Bool) (I0 : Int → Prop) (M0 : Int → Nat) (h : garmentref11_Same_V a b r0 I0 M0) (h0 : ∀ (i5 : Int), I0 i5 → garmentref11_Same_V0 a b r0 I0 M0 i5) : Ret Tryd.prog XS 17 [.sl 2 (a.map cSpot), .sl 2 (b.map cSpot)] (boo r0) := by
  refine fn_rule Tryd.func17 (by kernel_rfl) (by kernel_rfl) (by kernel_rfl) (by kernel_rfl) ?_
  have g_3 := (olen cSpot Tryd.prog 24 2 a (by kernel_rfl))
  have e_4 := (ac g_3 (olen cSpot Tryd.prog 24 2 b (by kernel_rfl)))
  by_cases c1 : ((a.length : Nat) : Int) = ((b.length : Nat) : Int)
  · have h := h.1 c1
    exact sl (ts := [0, 1, 5]) (ids := []) (d := 0) (s0 := ⟨[(0, .sl 2 (a.map cSpot)), (1, .sl 2 (b.map cSpot)), (5, int 0)], [], 0⟩) (ac e_4 (abf (bne_f c1))) (by kernel_rfl) (by kernel_rfl) (Weak.anew [] (by rfl) (wt_cons rfl wk_sl (wt_cons rfl wk_sl (wt_cons rfl wk_sc wt_nil))) wm_nil) (garmentref11_Same_W0 a b r0 I0 M0 h0 0 h)
  · have h := h.2 c1
    rw [h]
    exact sr (ids := []) (vs := [boo false]) (mem := []) (ac e_4 (abt (bne_t c1))) (by kernel_rfl) (by kernel_rfl) (rts_sc rfl)

-- polyline.Move
end Go.Ab
end
