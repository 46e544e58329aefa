/- A part of the proof. Conditions: those of each theorem. -/
import Derived.Test.YtmdeiagmlabfmaaDoorDTy
import Derived.Test.YtmdeiagmlabfmaaDoorDX
set_option linter.unusedVariables false
set_option linter.unusedSimpArgs false
set_option linter.unusedSectionVars false

section
namespace Go.Ab
open Go.Proofs
set_option maxRecDepth 100000
set_option linter.unusedVariables false
attribute [local irreducible] todoQ
-- outline.Check
def outline_Check_S0 (l : List Edge) (end4 : List Spot) (v27 : Int) : AS := ⟨[(0, .sl 2 (l.map cEdge)), (4, .sl 2 (end4.map cSpot)), (25, .sl 2 (l.map cEdge)), (26, int ((l.length : Nat) : Int)), (27, int v27)], [], 0⟩
abbrev outline_Check_V (l : List Edge) (r0 : Int) (I0 : (List Spot) → Int → Prop) (M0 : (List Spot) → Int → Nat) : Prop := ((((l.length : Nat) : Int) > 16 → r0 = 5) ∧ (¬ (((l.length : Nat) : Int) > 16) → ((((l.length : Nat) : Int) < 2 → r0 = 11) ∧ (¬ (((l.length : Nat) : Int) < 2) → (∃ (edges1 : Int), Ret Tryd.prog XS 35 [.sl 2 (l.map cEdge)] (int edges1) ∧ ((edges1 = 0 → (InR (((l.length : Nat) : Int) - 1)) ∧ (Idx (((l.length : Nat) : Int) - 1) l.length) ∧ I0 ((ai l (((l.length : Nat) : Int) - 1)).line) 0) ∧ (¬ (edges1 = 0) → r0 = edges1)))))))
abbrev outline_Check_V0 (l : List Edge) (r0 : Int) (I0 : (List Spot) → Int → Prop) (M0 : (List Spot) → Int → Nat) (end4 : List Spot) (v27 : Int) : Prop := ((v27 < ((l.length : Nat) : Int) → (Idx v27 l.length) ∧ (InR (((end4.length : Nat) : Int) - 1)) ∧ (Idx (((end4.length : Nat) : Int) - 1) end4.length) ∧ (Idx 0 ((ai l v27).line).length) ∧ (((ai end4 (((end4.length : Nat) : Int) - 1)) = (ai ((ai l v27).line) 0) → (InR (v27 + 1)) ∧ I0 ((ai l v27).line) (v27 + 1) ∧ M0 ((ai l v27).line) (v27 + 1) < M0 end4 v27) ∧ (¬ ((ai end4 (((end4.length : Nat) : Int) - 1)) = (ai ((ai l v27).line) 0)) → r0 = 11))) ∧ (¬ (v27 < ((l.length : Nat) : Int)) → (∃ (vertices1 : List Spot), Ret Tryd.prog XS 37 [.sl 2 (l.map cEdge)] (.fr 2 (vertices1.map cSpot)) ∧ (∃ (check2 : Int), Ret Tryd.prog XS 36 [.sl 2 (vertices1.map cSpot)] (int check2) ∧ r0 = check2))))
theorem outline_Check_W0 (l : List Edge) (r0 : Int) (I0 : (List Spot) → Int → Prop) (M0 : (List Spot) → Int → Nat) (h0 : ∀ (end4 : List Spot) (v27 : Int), I0 end4 v27 → outline_Check_V0 l r0 I0 M0 end4 v27) : ∀ (x : (List Spot) × Int), I0 x.1 x.2 → loopQ Tryd.prog XS Tryd.f19 0 (int r0) [] (outline_Check_S0 l x.1 x.2) := by
  intro x0 hx0
  refine loop_rule (fun (x : (List Spot) × Int) => I0 x.1 x.2) (fun (x : (List Spot) × Int) => M0 x.1 x.2) (fun (x : (List Spot) × Int) => outline_Check_S0 l x.1 x.2) x0 hx0 ?_
  rintro ⟨end4, v27⟩ hx
  have h := h0 end4 v27 hx
  clear hx hx0 x0
  by_cases c1 : v27 < ((l.length : Nat) : Int)
  · have h := h.1 c1
    obtain ⟨c2, c3, c4, c5, h⟩ := h
    have g_1 := (abt (dec_t c1))
    have e_2 := (ac g_1 (ac (oidx cEdge c2) (ac (olen cSpot Tryd.prog 24 2 end4 (by kernel_rfl)) (ac (osub Tryd.prog 3 (wi64 c3)) (ac (oidx cSpot c4) (oidx cSpot c5))))))
    by_cases c6 : (ai end4 (((end4.length : Nat) : Int) - 1)) = (ai ((ai l v27).line) 0)
    · have h := h.1 c6
      obtain ⟨c7, h⟩ := h
      exact sb (ts := [0, 4, 25, 26, 27]) (ids := []) (d := 0) (s0 := ⟨[(0, .sl 2 (l.map cEdge)), (4, .sl 2 (((ai l v27).line).map cSpot)), (25, .sl 2 (l.map cEdge)), (26, int ((l.length : Nat) : Int)), (27, int (v27 + 1))], [], 1⟩) (ac e_2 (ac (abf (not_f (sSpot_t c6))) (oadd Tryd.prog 3 (wi64 c7)))) (by kernel_rfl) (by kernel_rfl) rfl ((ai l v27).line, (v27 + 1)) h.1 h.2 (Weak.anew [] (by rfl) (wt_cons rfl wk_sl (wt_cons rfl wk_sl (wt_cons rfl wk_sl (wt_cons rfl wk_sc (wt_cons rfl wk_sc wt_nil))))) wm_nil)
    · have h := h.2 c6
      rw [h]
      exact sr (ids := []) (vs := [int 11]) (mem := []) (ac e_2 (abt (not_t (sSpot_f c6)))) (by kernel_rfl) (by kernel_rfl) (rts_sc rfl)
  · have h := h.2 c1
    obtain ⟨vertices1, c2, check2, c3, h⟩ := h
    have g_3 := (abf (dec_f c1))
    rw [h]
    exact sr (ids := []) (vs := [int check2]) (mem := []) (ac g_3 (ac (ocs c2) (ocl [0] [(0, .row 2 (vertices1.map cSpot))] [.own 0 0 ((vertices1.map cSpot).length)] (as_cons (at_row (List.length_map ..) rfl) as_nil) c3))) (by kernel_rfl) (by kernel_rfl) (rts_sc rfl)
theorem outline_Check_W (l : List Edge) (r0 : Int) (I0 : (List Spot) → Int → Prop) (M0 : (List Spot) → Int → Nat) (h : outline_Check_V l r0 I0 M0) (h0 : ∀ (end4 : List Spot) (v27 : Int), I0 end4 v27 → outline_Check_V0 l r0 I0 M0 end4 v27) : Ret Tryd.prog XS 19 [.sl 2 (l.map cEdge)] (int r0) := by
  refine fn_rule Tryd.func19 (by kernel_rfl) (by kernel_rfl) (by kernel_rfl) (by kernel_rfl) ?_
  have g_4 := (olen cEdge Tryd.prog 22 2 l (by kernel_rfl))
  by_cases c1 : ((l.length : Nat) : Int) > 16
  · have h := h.1 c1
    have g_5 := (abt (dec_t c1))
    rw [h]
    exact sr (ids := []) (vs := [int 5]) (mem := []) (ac g_4 g_5) (by kernel_rfl) (by kernel_rfl) (rts_sc rfl)
  · have h := h.2 c1
    have g_6 := (abf (dec_f c1))
    have e_7 := (ac g_6 g_4)
    by_cases c2 : ((l.length : Nat) : Int) < 2
    · have h := h.1 c2
      rw [h]
      exact sr (ids := []) (vs := [int 11]) (mem := []) (ac g_4 (ac e_7 (abt (dec_t c2)))) (by kernel_rfl) (by kernel_rfl) (rts_sc rfl)
    · have h := h.2 c2
      obtain ⟨edges1, c3, h⟩ := h
      have e_8 := (ac (abf (dec_f c2)) (ocs c3))
      by_cases c4 : edges1 = 0
      · have h := h.1 c4
        obtain ⟨c5, c6, h⟩ := h
        exact sl (ts := [0, 4, 25, 26, 27]) (ids := []) (d := 0) (s0 := ⟨[(0, .sl 2 (l.map cEdge)), (4, .sl 2 (((ai l (((l.length : Nat) : Int) - 1)).line).map cSpot)), (25, .sl 2 (l.map cEdge)), (26, int ((l.length : Nat) : Int)), (27, int 0)], [], 0⟩) (ac g_4 (ac e_7 (ac e_8 (ac (abf (bne_f c4)) (ac g_4 (ac (osub Tryd.prog 3 (wi64 c5)) (ac (oidx cEdge c6) g_4))))))) (by kernel_rfl) (by kernel_rfl) (Weak.anew [] (by rfl) (wt_cons rfl wk_sl (wt_cons rfl wk_sl (wt_cons rfl wk_sl (wt_cons rfl wk_sc (wt_cons rfl wk_sc wt_nil))))) wm_nil) (outline_Check_W0 l r0 I0 M0 h0 ((ai l (((l.length : Nat) : Int) - 1)).line, 0) h)
      · have h := h.2 c4
        rw [h]
        exact sr (ids := []) (vs := [int edges1]) (mem := []) (ac g_4 (ac e_7 (ac e_8 (abt (bne_t c4))))) (by kernel_rfl) (by kernel_rfl) (rts_sc rfl)

-- polyline.Length
def polyline_Length_S0 (l : List Spot) (n5 : Int) (i6 : Int) : AS := ⟨[(0, .sl 2 (l.map cSpot)), (5, int n5), (6, int i6)], [], 0⟩
abbrev polyline_Length_V (l : List Spot) (r0 : Int) (r1 : Int) (I0 : Int → Int → Prop) (M0 : Int → Int → Nat) : Prop := (∃ (check1 : Int), Ret Tryd.prog XS 38 [.sl 2 (l.map cSpot)] (int check1) ∧ ((check1 = 0 → I0 0 1) ∧ (¬ (check1 = 0) → r0 = 0 ∧ r1 = check1)))
abbrev polyline_Length_V0 (l : List Spot) (r0 : Int) (r1 : Int) (I0 : Int → Int → Prop) (M0 : Int → Int → Nat) (n5 : Int) (i6 : Int) : Prop := ((i6 < ((l.length : Nat) : Int) → (InR (i6 - 1)) ∧ (Idx (i6 - 1) l.length) ∧ (Idx i6 l.length) ∧ (∃ (segment1 : Int), Ret Tryd.prog XS 39 [.agg [int ((ai l (i6 - 1)).x), int ((ai l (i6 - 1)).y)], .agg [int ((ai l i6).x), int ((ai l i6).y)]] (int segment1) ∧ (InR (n5 + segment1)) ∧ (InR (i6 + 1)) ∧ I0 (n5 + segment1) (i6 + 1) ∧ M0 (n5 + segment1) (i6 + 1) < M0 n5 i6)) ∧ (¬ (i6 < ((l.length : Nat) : Int)) → r0 = n5 ∧ r1 = 0))
theorem polyline_Length_W0 (l : List Spot) (r0 : Int) (r1 : Int) (I0 : Int → Int → Prop) (M0 : Int → Int → Nat) (h0 : ∀ (n5 : Int) (i6 : Int), I0 n5 i6 → polyline_Length_V0 l r0 r1 I0 M0 n5 i6) : ∀ (x : Int × Int), I0 x.1 x.2 → loopQ Tryd.prog XS Tryd.f20 0 (.tup [int r0, int r1]) [] (polyline_Length_S0 l x.1 x.2) := by
  intro x0 hx0
  refine loop_rule (fun (x : Int × Int) => I0 x.1 x.2) (fun (x : Int × Int) => M0 x.1 x.2) (fun (x : Int × Int) => polyline_Length_S0 l x.1 x.2) x0 hx0 ?_
  rintro ⟨n5, i6⟩ hx
  have h := h0 n5 i6 hx
  clear hx hx0 x0
  have e_1 := (olen cSpot Tryd.prog 24 2 l (by kernel_rfl))
  by_cases c1 : i6 < ((l.length : Nat) : Int)
  · have h := h.1 c1
    obtain ⟨c2, c3, c4, segment1, c5, c6, c7, h⟩ := h
    exact sb (ts := [0, 5, 6]) (ids := []) (d := 0) (s0 := ⟨[(0, .sl 2 (l.map cSpot)), (5, int (n5 + segment1)), (6, int (i6 + 1))], [], 0⟩) (ac e_1 (ac (abt (dec_t c1)) (ac (osub Tryd.prog 3 (wi64 c2)) (ac (oidx cSpot c3) (ac (oidx cSpot c4) (ac (ocs c5) (ac (oadd Tryd.prog 3 (wi64 c6)) (oadd Tryd.prog 3 (wi64 c7))))))))) (by kernel_rfl) (by kernel_rfl) rfl ((n5 + segment1), (i6 + 1)) h.1 h.2 (Weak.anew [] (by rfl) (wt_cons rfl wk_sl (wt_cons rfl wk_sc (wt_cons rfl wk_sc wt_nil))) wm_nil)
  · have h := h.2 c1
    rw [h.1, h.2]
    exact sr (ids := []) (vs := [int n5, int 0]) (mem := []) (ac e_1 (abf (dec_f c1))) (by kernel_rfl) (by kernel_rfl) (rts_sc (rts_sc rfl))
theorem polyline_Length_W (l : List Spot) (r0 : Int) (r1 : Int) (I0 : Int → Int → Prop) (M0 : Int → Int → Nat) (h : polyline_Length_V l r0 r1 I0 M0) (h0 : ∀ (n5 : Int) (i6 : Int), I0 n5 i6 → polyline_Length_V0 l r0 r1 I0 M0 n5 i6) : Ret Tryd.prog XS 20 [.sl 2 (l.map cSpot)] (.tup [int r0, int r1]) := by
  refine fn_rule Tryd.func20 (by kernel_rfl) (by kernel_rfl) (by kernel_rfl) (by kernel_rfl) ?_
  obtain ⟨check1, c1, h⟩ := h
  have e_2 := (ocs c1)
  by_cases c2 : check1 = 0
  · have h := h.1 c2
    exact sl (ts := [0, 5, 6]) (ids := []) (d := 0) (s0 := ⟨[(0, .sl 2 (l.map cSpot)), (5, int 0), (6, int 1)], [], 0⟩) (ac e_2 (abf (bne_f c2))) (by kernel_rfl) (by kernel_rfl) (Weak.anew [] (by rfl) (wt_cons rfl wk_sl (wt_cons rfl wk_sc (wt_cons rfl wk_sc wt_nil))) wm_nil) (polyline_Length_W0 l r0 r1 I0 M0 h0 (0, 1) h)
  · have h := h.2 c2
    rw [h.1, h.2]
    exact sr (ids := []) (vs := [int 0, int check1]) (mem := []) (ac e_2 (abt (bne_t c2))) (by kernel_rfl) (by kernel_rfl) (rts_sc (rts_sc rfl))

-- garmentref21.Same
def garmentref21_Same_S0 (listappend : Piece) (a : Piece) (v5 : Int) : AS := ⟨[(2, .ptr 0 0 0), (3, .ptr 1 0 0), (5, int v5)], [(0, .box [str listappend.name, .sl 2 (listappend.edges.map cEdge), int listappend.grain, .sl 2 (listappend.notches.map cNotch), .sl 2 (listappend.corners.map cSpot), .sl 1 (listappend.widths.map cI), boo listappend.match_]), (1, .box [str a.name, .sl 2 (a.edges.map cEdge), int a.grain, .sl 2 (a.notches.map cNotch), .sl 2 (a.corners.map cSpot), .sl 1 (a.widths.map cI), boo a.match_])], 2⟩
abbrev garmentref21_Same_V (listappend : Piece) (a : Piece) (r0 : Bool) (I0 : Int → Prop) (M0 : Int → Nat) : Prop := ((listappend.name = a.name → ((listappend.grain = a.grain → ((listappend.match_ = a.match_ → ((((listappend.notches.length : Nat) : Int) = ((a.notches.length : Nat) : Int) → I0 0) ∧ (¬ (((listappend.notches.length : Nat) : Int) = ((a.notches.length : Nat) : Int)) → r0 = false))) ∧ (¬ (listappend.match_ = a.match_) → r0 = false))) ∧ (¬ (listappend.grain = a.grain) → r0 = false))) ∧ (¬ (listappend.name = a.name) → r0 = false))
abbrev garmentref21_Same_V0 (listappend : Piece) (a : Piece) (r0 : Bool) (I0 : Int → Prop) (M0 : Int → Nat) (v5 : Int) : Prop := ((v5 < ((listappend.notches.length : Nat) : Int) → (Idx v5 listappend.notches.length) ∧ (Idx v5 a.notches.length) ∧ (((ai listappend.notches v5) = (ai a.notches v5) → (InR (v5 + 1)) ∧ I0 (v5 + 1) ∧ M0 (v5 + 1) < M0 v5) ∧ (¬ ((ai listappend.notches v5) = (ai a.notches v5)) → r0 = false))) ∧ (¬ (v5 < ((listappend.notches.length : Nat) : Int)) → (∃ (sameEdges1 : Bool), Ret Tryd.prog XS 13 [.sl 2 (listappend.edges.map cEdge), .sl 2 (a.edges.map cEdge)] (boo sameEdges1) ∧ ((sameEdges1 = true → (∃ (same2 : Bool), Ret Tryd.prog XS 17 [.sl 2 (listappend.corners.map cSpot), .sl 2 (a.corners.map cSpot)] (boo same2) ∧ ((same2 = true → (∃ (sameInts3 : Bool), Ret Tryd.prog XS 16 [.sl 1 (listappend.widths.map cI), .sl 1 (a.widths.map cI)] (boo sameInts3) ∧ r0 = sameInts3)) ∧ (same2 = false → r0 = false)))) ∧ (sameEdges1 = false → r0 = false)))))
theorem garmentref21_Same_W0 (listappend : Piece) (a : Piece) (r0 : Bool) (I0 : Int → Prop) (M0 : Int → Nat) (h0 : ∀ (v5 : Int), I0 v5 → garmentref21_Same_V0 listappend a r0 I0 M0 v5) : ∀ (x : Int), I0 x → loopQ Tryd.prog XS Tryd.f21 0 (boo r0) [] (garmentref21_Same_S0 listappend a x) := by
  intro x0 hx0
  refine loop_rule (fun (x : Int) => I0 x) (fun (x : Int) => M0 x) (fun (x : Int) => garmentref21_Same_S0 listappend a x) x0 hx0 ?_
  intro v5 hx
  have h := h0 v5 hx
  clear hx hx0 x0
  have g_1 := (olen cNotch Tryd.prog 23 2 listappend.notches (by kernel_rfl))
  by_cases c1 : v5 < ((listappend.notches.length : Nat) : Int)
  · have h := h.1 c1
    obtain ⟨c2, c3, h⟩ := h
    have e_2 := (ac (abt (dec_t c1)) (ac (oidx cNotch c2) (oidx cNotch c3)))
    by_cases c4 : (ai listappend.notches v5) = (ai a.notches v5)
    · have h := h.1 c4
      obtain ⟨c5, h⟩ := h
      exact sb (ts := [2, 3, 5]) (ids := [0, 1]) (d := 0) (s0 := ⟨[(2, .ptr 0 0 0), (3, .ptr 1 0 0), (5, int (v5 + 1))], [(0, .box [str listappend.name, .sl 2 (listappend.edges.map cEdge), int listappend.grain, .sl 2 (listappend.notches.map cNotch), .sl 2 (listappend.corners.map cSpot), .sl 1 (listappend.widths.map cI), boo listappend.match_]), (1, .box [str a.name, .sl 2 (a.edges.map cEdge), int a.grain, .sl 2 (a.notches.map cNotch), .sl 2 (a.corners.map cSpot), .sl 1 (a.widths.map cI), boo a.match_])], 2⟩) (ac g_1 (ac e_2 (ac (abf (not_f (sNotch_t c4))) (oadd Tryd.prog 3 (wi64 c5))))) (by kernel_rfl) (by kernel_rfl) rfl (v5 + 1) h.1 h.2 (Weak.anew [(0, some 0), (1, some 1)] (by rfl) (wt_cons rfl (wk_ptr rfl) (wt_cons rfl (wk_ptr rfl) (wt_cons rfl wk_sc wt_nil))) (wm_box rfl rfl (wl_cons wk_sc (wl_cons wk_sl (wl_cons wk_sc (wl_cons wk_sl (wl_cons wk_sl (wl_cons wk_sl (wl_cons wk_sc wl_nil))))))) (wm_box rfl rfl (wl_cons wk_sc (wl_cons wk_sl (wl_cons wk_sc (wl_cons wk_sl (wl_cons wk_sl (wl_cons wk_sl (wl_cons wk_sc wl_nil))))))) wm_nil)))
    · have h := h.2 c4
      rw [h]
      exact sr (ids := []) (vs := [boo false]) (mem := []) (ac g_1 (ac e_2 (abt (not_t (sNotch_f c4))))) (by kernel_rfl) (by kernel_rfl) (rts_sc rfl)
  · have h := h.2 c1
    obtain ⟨sameEdges1, c2, h⟩ := h
    have e_3 := (ac (abf (dec_f c1)) (ocs c2))
    rcases Bool.eq_false_or_eq_true sameEdges1 with c3 | c3
    · have h := h.1 c3
      obtain ⟨same2, c4, h⟩ := h
      have e_4 := (ac (abt c3) (ac (abt c3) (ac (abt c3) (ac (abt c3) (ac (abt c3) (ac (ocs c4) (abt c3)))))))
      rcases Bool.eq_false_or_eq_true same2 with c5 | c5
      · have h := h.1 c5
        obtain ⟨sameInts3, c6, h⟩ := h
        rw [h]
        exact sr (ids := []) (vs := [boo sameInts3]) (mem := []) (ac g_1 (ac e_3 (ac e_4 (ac (abt c5) (ac (abt c5) (ac (abt c5) (ac (abt c5) (ac (abt c5) (ac (ocs c6) (abt c5)))))))))) (by kernel_rfl) (by kernel_rfl) (rts_sc rfl)
      · have h := h.2 c5
        rw [h]
        exact sr (ids := []) (vs := [boo false]) (mem := []) (ac g_1 (ac e_3 (ac e_4 (ac (abf c5) (ac (abf c5) (ac (abf c5) (ac (abf c5) (ac (abf c5) (abf c5))))))))) (by kernel_rfl) (by kernel_rfl) (rts_sc rfl)
    · have h := h.2 c3
      rw [h]
      exact sr (ids := []) (vs := [boo false]) (mem := []) (ac g_1 (ac e_3 (ac (abf c3) (ac (abf c3) (ac (abf c3) (ac (abf c3) (ac (abf c3) (ac (abf c3) (ac abff (ac abff (ac abff (ac abff (ac abff abff))))))))))))) (by kernel_rfl) (by kernel_rfl) (rts_sc rfl)
theorem garmentref21_Same_W (listappend : Piece) (a : Piece) (r0 : Bool) (I0 : Int → Prop) (M0 : Int → Nat) (h : garmentref21_Same_V listappend a r0 I0 M0) (h0 : ∀ (v5 : Int), I0 v5 → garmentref21_Same_V0 listappend a r0 I0 M0 v5) : Ret Tryd.prog XS 21 [.agg [str listappend.name, .sl 2 (listappend.edges.map cEdge), int listappend.grain, .sl 2 (listappend.notches.map cNotch), .sl 2 (listappend.corners.map cSpot), .sl 1 (listappend.widths.map cI), boo listappend.match_], .agg [str a.name, .sl 2 (a.edges.map cEdge), int a.grain, .sl 2 (a.notches.map cNotch), .sl 2 (a.corners.map cSpot), .sl 1 (a.widths.map cI), boo a.match_]] (boo r0) := by
  refine fn_rule Tryd.func21 (by kernel_rfl) (by kernel_rfl) (by kernel_rfl) (by kernel_rfl) ?_
  by_cases c1 : listappend.name = a.name
  · have h := h.1 c1
    have g_5 := (abf (not_f (streq_t c1)))
    have e_6 := (ac g_5 (ac g_5 (ac g_5 (ac g_5 (ac g_5 g_5)))))
    by_cases c2 : listappend.grain = a.grain
    · have h := h.1 c2
      have g_7 := (abf (bne_f c2))
      have e_8 := (ac g_7 (ac g_7 (ac g_7 (ac g_7 (ac g_7 g_7)))))
      by_cases c3 : listappend.match_ = a.match_
      · have h := h.1 c3
        have g_9 := (abf (not_f (beq_t c3)))
        have g_10 := (olen cNotch Tryd.prog 23 2 listappend.notches (by kernel_rfl))
        have e_11 := (ac g_9 (ac g_9 (ac g_9 (ac g_10 (ac g_9 (ac g_9 (ac g_9 (ac (olen cNotch Tryd.prog 23 2 a.notches (by kernel_rfl)) (ac g_9 g_9)))))))))
        by_cases c4 : ((listappend.notches.length : Nat) : Int) = ((a.notches.length : Nat) : Int)
        · have h := h.1 c4
          exact sl (ts := [2, 3, 5]) (ids := [0, 1]) (d := 0) (s0 := ⟨[(2, .ptr 0 0 0), (3, .ptr 1 0 0), (5, int 0)], [(0, .box [str listappend.name, .sl 2 (listappend.edges.map cEdge), int listappend.grain, .sl 2 (listappend.notches.map cNotch), .sl 2 (listappend.corners.map cSpot), .sl 1 (listappend.widths.map cI), boo listappend.match_]), (1, .box [str a.name, .sl 2 (a.edges.map cEdge), int a.grain, .sl 2 (a.notches.map cNotch), .sl 2 (a.corners.map cSpot), .sl 1 (a.widths.map cI), boo a.match_])], 2⟩) (ac e_6 (ac e_8 (ac e_11 (abf (bne_f c4))))) (by kernel_rfl) (by kernel_rfl) (Weak.anew [(0, some 0), (1, some 1)] (by rfl) (wt_cons rfl (wk_ptr rfl) (wt_cons rfl (wk_ptr rfl) (wt_cons rfl wk_sc wt_nil))) (wm_box rfl rfl (wl_cons wk_sc (wl_cons wk_sl (wl_cons wk_sc (wl_cons wk_sl (wl_cons wk_sl (wl_cons wk_sl (wl_cons wk_sc wl_nil))))))) (wm_box rfl rfl (wl_cons wk_sc (wl_cons wk_sl (wl_cons wk_sc (wl_cons wk_sl (wl_cons wk_sl (wl_cons wk_sl (wl_cons wk_sc wl_nil))))))) wm_nil))) (garmentref21_Same_W0 listappend a r0 I0 M0 h0 0 h)
        · have h := h.2 c4
          rw [h]
          exact sr (ids := []) (vs := [boo false]) (mem := []) (ac e_6 (ac e_8 (ac e_11 (abt (bne_t c4))))) (by kernel_rfl) (by kernel_rfl) (rts_sc rfl)
      · have h := h.2 c3
        have g_12 := (abt (not_t (beq_f c3)))
        rw [h]
        exact sr (ids := []) (vs := [boo false]) (mem := []) (ac e_6 (ac e_8 (ac g_12 (ac g_12 (ac g_12 (ac g_12 (ac g_12 (ac g_12 (ac g_12 (ac g_12 abtt)))))))))) (by kernel_rfl) (by kernel_rfl) (rts_sc rfl)
    · have h := h.2 c2
      have g_13 := (abt (bne_t c2))
      rw [h]
      exact sr (ids := []) (vs := [boo false]) (mem := []) (ac e_6 (ac g_13 (ac g_13 (ac g_13 (ac g_13 (ac g_13 (ac g_13 (ac abtt (ac abtt (ac abtt (ac abtt (ac abtt (ac abtt (ac abtt (ac abtt abtt))))))))))))))) (by kernel_rfl) (by kernel_rfl) (rts_sc rfl)
  · have h := h.2 c1
    have g_14 := (abt (not_t (streq_f c1)))
    rw [h]
    exact sr (ids := []) (vs := [boo false]) (mem := []) (ac g_14 (ac g_14 (ac g_14 (ac g_14 (ac g_14 (ac g_14 (ac abtt (ac abtt (ac abtt (ac abtt (ac abtt (ac abtt (ac abtt (ac abtt (ac abtt (ac abtt (ac abtt (ac abtt (ac abtt (ac abtt abtt)))))))))))))))))))) (by kernel_rfl) (by kernel_rfl) (rts_sc rfl)

-- turn.Compose
abbrev turn_Compose_V (a : Turn) (b : Turn) (r0 : Turn) : Prop := (InR a.quarter) ∧ ((b.flip = true → (InR (-(a.quarter % 4))) ∧ (InR b.quarter) ∧ (InR ((-(a.quarter % 4)) + (b.quarter % 4))) ∧ (∃ (norm1 : Turn), Ret Tryd.prog XS 40 [.agg [boo (!(a.flip == b.flip)), int ((-(a.quarter % 4)) + (b.quarter % 4))]] (.agg [boo norm1.flip, int norm1.quarter]) ∧ r0 = norm1)) ∧ (b.flip = false → (InR b.quarter) ∧ (InR ((a.quarter % 4) + (b.quarter % 4))) ∧ (∃ (norm1 : Turn), Ret Tryd.prog XS 40 [.agg [boo (!(a.flip == b.flip)), int ((a.quarter % 4) + (b.quarter % 4))]] (.agg [boo norm1.flip, int norm1.quarter]) ∧ r0 = norm1)))
theorem turn_Compose_W (a : Turn) (b : Turn) (r0 : Turn) (h : turn_Compose_V a b r0) : Ret Tryd.prog XS 22 [.agg [boo a.flip, int a.quarter], .agg [boo b.flip, int b.quarter]] (.agg [boo r0.flip, int r0.quarter]) := by
  refine fn_rule Tryd.func22 (by kernel_rfl) (by kernel_rfl) (by kernel_rfl) (by kernel_rfl) ?_
  obtain ⟨c1, h⟩ := h
  have e_1 := (oand3 Tryd.prog 3 (wi64 c1))
  rcases Bool.eq_false_or_eq_true b.flip with c2 | c2
  · have h := h.1 c2
    obtain ⟨c3, c4, c5, norm1, c6, h⟩ := h
    rw [h]
    exact sr (ids := []) (vs := [.agg [boo norm1.flip, int norm1.quarter]]) (mem := []) (ac e_1 (ac (abt c2) (ac (oneg (wi64 c3)) (ac (oand3 Tryd.prog 3 (wi64 c4)) (ac (oadd Tryd.prog 3 (wi64 c5)) (ocs c6)))))) (by kernel_rfl) (by kernel_rfl) (rts_agg (rcs_sc (rcs_sc (rcs_nil rfl))))
  · have h := h.2 c2
    obtain ⟨c3, c4, norm1, c5, h⟩ := h
    rw [h]
    exact sr (ids := []) (vs := [.agg [boo norm1.flip, int norm1.quarter]]) (mem := []) (ac e_1 (ac (abf c2) (ac (oand3 Tryd.prog 3 (wi64 c3)) (ac (oadd Tryd.prog 3 (wi64 c4)) (ocs c5))))) (by kernel_rfl) (by kernel_rfl) (rts_agg (rcs_sc (rcs_sc (rcs_nil rfl))))

-- turn.Inverse
abbrev turn_Inverse_V (t0 : Turn) (r0 : Turn) : Prop := ((t0.flip = true → (∃ (norm1 : Turn), Ret Tryd.prog XS 40 [.agg [boo t0.flip, int t0.quarter]] (.agg [boo norm1.flip, int norm1.quarter]) ∧ r0 = norm1)) ∧ (t0.flip = false → (InR t0.quarter) ∧ (InR (-(t0.quarter % 4))) ∧ (∃ (norm1 : Turn), Ret Tryd.prog XS 40 [.agg [boo false, int (-(t0.quarter % 4))]] (.agg [boo norm1.flip, int norm1.quarter]) ∧ r0 = norm1)))
theorem turn_Inverse_W (t0 : Turn) (r0 : Turn) (h : turn_Inverse_V t0 r0) : Ret Tryd.prog XS 23 [.agg [boo t0.flip, int t0.quarter]] (.agg [boo r0.flip, int r0.quarter]) := by
  refine fn_rule Tryd.func23 (by kernel_rfl) (by kernel_rfl) (by kernel_rfl) (by kernel_rfl) ?_
  rcases Bool.eq_false_or_eq_true t0.flip with c1 | c1
  · have h := h.1 c1
    obtain ⟨norm1, c2, h⟩ := h
    rw [h]
    exact sr (ids := []) (vs := [.agg [boo norm1.flip, int norm1.quarter]]) (mem := []) (ac (abt c1) (ocs c2)) (by kernel_rfl) (by kernel_rfl) (rts_agg (rcs_sc (rcs_sc (rcs_nil rfl))))
  · have h := h.2 c1
    obtain ⟨c2, c3, norm1, c4, h⟩ := h
    rw [h]
    exact sr (ids := []) (vs := [.agg [boo norm1.flip, int norm1.quarter]]) (mem := []) (ac (abf c1) (ac (oand3 Tryd.prog 3 (wi64 c2)) (ac (oneg (wi64 c3)) (ocs c4)))) (by kernel_rfl) (by kernel_rfl) (rts_agg (rcs_sc (rcs_sc (rcs_nil rfl))))

-- grade.shifted
-- (grade.times).move
end Go.Ab
end

section
namespace Go.Ab
open Go.Proofs
set_option maxRecDepth 100000
set_option linter.unusedVariables false
attribute [local irreducible] todoQ
-- grade.along
-- turn.Apply
abbrev turn_Apply_V (t0 : Turn) (s1 : Spot) (r0 : Spot) : Prop := ((t0.flip = true → (InR t0.quarter) ∧ (((t0.quarter % 4) = 1 → r0 = (⟨(IntKind.wrap .i64 (-s1.y)), (IntKind.wrap .i64 (-s1.x))⟩ : Spot)) ∧ (¬ ((t0.quarter % 4) = 1) → (((t0.quarter % 4) = 2 → r0 = (⟨(IntKind.wrap .i64 (-(IntKind.wrap .i64 (-s1.x)))), (IntKind.wrap .i64 (-s1.y))⟩ : Spot)) ∧ (¬ ((t0.quarter % 4) = 2) → (((t0.quarter % 4) = 3 → r0 = (⟨s1.y, (IntKind.wrap .i64 (-(IntKind.wrap .i64 (-s1.x))))⟩ : Spot)) ∧ (¬ ((t0.quarter % 4) = 3) → r0 = (⟨(IntKind.wrap .i64 (-s1.x)), s1.y⟩ : Spot)))))))) ∧ (t0.flip = false → (InR t0.quarter) ∧ (((t0.quarter % 4) = 1 → r0 = (⟨(IntKind.wrap .i64 (-s1.y)), s1.x⟩ : Spot)) ∧ (¬ ((t0.quarter % 4) = 1) → (((t0.quarter % 4) = 2 → r0 = (⟨(IntKind.wrap .i64 (-s1.x)), (IntKind.wrap .i64 (-s1.y))⟩ : Spot)) ∧ (¬ ((t0.quarter % 4) = 2) → (((t0.quarter % 4) = 3 → r0 = (⟨s1.y, (IntKind.wrap .i64 (-s1.x))⟩ : Spot)) ∧ (¬ ((t0.quarter % 4) = 3) → r0 = s1))))))))
theorem turn_Apply_W (t0 : Turn) (s1 : Spot) (r0 : Spot) (h : turn_Apply_V t0 s1 r0) : Ret Tryd.prog XS 29 [.agg [boo t0.flip, int t0.quarter], .agg [int s1.x, int s1.y]] (.agg [int r0.x, int r0.y]) := by
  refine fn_rule Tryd.func29 (by kernel_rfl) (by kernel_rfl) (by kernel_rfl) (by kernel_rfl) ?_
  rcases Bool.eq_false_or_eq_true t0.flip with c1 | c1
  · have h := h.1 c1
    obtain ⟨c2, h⟩ := h
    have g_1 := (onegw .i64 s1.x)
    have g_2 := (oand3 Tryd.prog 3 (wi64 c2))
    have e_3 := (ac (abt c1) (ac g_1 g_2))
    by_cases c3 : (t0.quarter % 4) = 1
    · have h := h.1 c3
      have g_4 := (abt (beq_t c3))
      have g_5 := (onegw .i64 s1.y)
      rw [h]
      exact sr (ids := []) (vs := [.agg [int (IntKind.wrap .i64 (-s1.y)), int (IntKind.wrap .i64 (-s1.x))]]) (mem := []) (ac e_3 (ac g_4 g_5)) (by kernel_rfl) (by kernel_rfl) (rts_agg (rcs_sc (rcs_sc (rcs_nil rfl))))
    · have h := h.2 c3
      have g_6 := (abf (beq_f c3))
      by_cases c4 : (t0.quarter % 4) = 2
      · have h := h.1 c4
        have g_7 := (abt (beq_t c4))
        have g_8 := (onegw .i64 (IntKind.wrap .i64 (-s1.x)))
        have g_9 := (onegw .i64 s1.y)
        rw [h]
        exact sr (ids := []) (vs := [.agg [int (IntKind.wrap .i64 (-(IntKind.wrap .i64 (-s1.x)))), int (IntKind.wrap .i64 (-s1.y))]]) (mem := []) (ac e_3 (ac g_6 (ac g_7 (ac g_8 g_9)))) (by kernel_rfl) (by kernel_rfl) (rts_agg (rcs_sc (rcs_sc (rcs_nil rfl))))
      · have h := h.2 c4
        have g_10 := (abf (beq_f c4))
        by_cases c5 : (t0.quarter % 4) = 3
        · have h := h.1 c5
          have g_11 := (abt (beq_t c5))
          have g_12 := (onegw .i64 (IntKind.wrap .i64 (-s1.x)))
          rw [h]
          exact sr (ids := []) (vs := [.agg [int s1.y, int (IntKind.wrap .i64 (-(IntKind.wrap .i64 (-s1.x))))]]) (mem := []) (ac e_3 (ac g_6 (ac g_10 (ac g_11 g_12)))) (by kernel_rfl) (by kernel_rfl) (rts_agg (rcs_sc (rcs_sc (rcs_nil rfl))))
        · have h := h.2 c5
          have g_13 := (abf (beq_f c5))
          rw [h]
          exact sr (ids := []) (vs := [.agg [int (IntKind.wrap .i64 (-s1.x)), int s1.y]]) (mem := []) (ac e_3 (ac g_6 (ac g_10 g_13))) (by kernel_rfl) (by kernel_rfl) (rts_agg (rcs_sc (rcs_sc (rcs_nil rfl))))
  · have h := h.2 c1
    obtain ⟨c2, h⟩ := h
    have g_14 := (oand3 Tryd.prog 3 (wi64 c2))
    have e_15 := (ac (abf c1) g_14)
    by_cases c3 : (t0.quarter % 4) = 1
    · have h := h.1 c3
      have g_16 := (abt (beq_t c3))
      have g_17 := (onegw .i64 s1.y)
      rw [h]
      exact sr (ids := []) (vs := [.agg [int (IntKind.wrap .i64 (-s1.y)), int s1.x]]) (mem := []) (ac e_15 (ac g_16 g_17)) (by kernel_rfl) (by kernel_rfl) (rts_agg (rcs_sc (rcs_sc (rcs_nil rfl))))
    · have h := h.2 c3
      have g_18 := (abf (beq_f c3))
      by_cases c4 : (t0.quarter % 4) = 2
      · have h := h.1 c4
        have g_19 := (abt (beq_t c4))
        have g_20 := (onegw .i64 s1.x)
        have g_21 := (onegw .i64 s1.y)
        rw [h]
        exact sr (ids := []) (vs := [.agg [int (IntKind.wrap .i64 (-s1.x)), int (IntKind.wrap .i64 (-s1.y))]]) (mem := []) (ac e_15 (ac g_18 (ac g_19 (ac g_20 g_21)))) (by kernel_rfl) (by kernel_rfl) (rts_agg (rcs_sc (rcs_sc (rcs_nil rfl))))
      · have h := h.2 c4
        have g_22 := (abf (beq_f c4))
        by_cases c5 : (t0.quarter % 4) = 3
        · have h := h.1 c5
          have g_23 := (abt (beq_t c5))
          have g_24 := (onegw .i64 s1.x)
          rw [h]
          exact sr (ids := []) (vs := [.agg [int s1.y, int (IntKind.wrap .i64 (-s1.x))]]) (mem := []) (ac e_15 (ac g_18 (ac g_22 (ac g_23 g_24)))) (by kernel_rfl) (by kernel_rfl) (rts_agg (rcs_sc (rcs_sc (rcs_nil rfl))))
        · have h := h.2 c5
          have g_25 := (abf (beq_f c5))
          rw [h]
          exact sr (ids := []) (vs := [.agg [int s1.x, int s1.y]]) (mem := []) (ac e_15 (ac g_18 (ac g_22 g_25))) (by kernel_rfl) (by kernel_rfl) (rts_agg (rcs_sc (rcs_sc (rcs_nil rfl))))

-- grade.mirrored
abbrev grade_mirrored_V (l : List Edge) (x : Notch) (r0 : Notch) : Prop := ((x.edge < 0 → r0 = x) ∧ (¬ (x.edge < 0) → ((x.edge ≥ ((l.length : Nat) : Int) → r0 = x) ∧ (¬ (x.edge ≥ ((l.length : Nat) : Int)) → (Idx x.edge l.length) ∧ (∃ (length1a : Int) (length1b : Int), Ret Tryd.prog XS 20 [.sl 2 (((ai l x.edge).line).map cSpot)] (.tup [int length1a, int length1b]) ∧ ((x.at_ ≥ 0 → ((x.at_ ≤ length1a → (InR (length1a - x.at_)) ∧ (InR (((l.length : Nat) : Int) - x.edge)) ∧ (((l.length : Nat) : Int) ≠ 0) ∧ r0 = (⟨((((l.length : Nat) : Int) - x.edge).tmod ((l.length : Nat) : Int)), (length1a - x.at_)⟩ : Notch)) ∧ (¬ (x.at_ ≤ length1a) → (InR (((l.length : Nat) : Int) - x.edge)) ∧ (((l.length : Nat) : Int) ≠ 0) ∧ r0 = (⟨((((l.length : Nat) : Int) - x.edge).tmod ((l.length : Nat) : Int)), 0⟩ : Notch)))) ∧ (¬ (x.at_ ≥ 0) → (InR (((l.length : Nat) : Int) - x.edge)) ∧ (((l.length : Nat) : Int) ≠ 0) ∧ r0 = (⟨((((l.length : Nat) : Int) - x.edge).tmod ((l.length : Nat) : Int)), 0⟩ : Notch))))))))
theorem grade_mirrored_W (l : List Edge) (x : Notch) (r0 : Notch) (h : grade_mirrored_V l x r0) : Ret Tryd.prog XS 30 [.sl 2 (l.map cEdge), .agg [int x.edge, int x.at_]] (.agg [int r0.edge, int r0.at_]) := by
  refine fn_rule Tryd.func30 (by kernel_rfl) (by kernel_rfl) (by kernel_rfl) (by kernel_rfl) ?_
  by_cases c1 : x.edge < 0
  · have h := h.1 c1
    have g_1 := (abt (dec_t c1))
    rw [h]
    exact sr (ids := []) (vs := [.agg [int x.edge, int x.at_]]) (mem := []) (ac g_1 (ac g_1 (ac g_1 (ac g_1 (ac g_1 (ac g_1 abtt)))))) (by kernel_rfl) (by kernel_rfl) (rts_agg (rcs_sc (rcs_sc (rcs_nil rfl))))
  · have h := h.2 c1
    have g_2 := (abf (dec_f c1))
    have g_3 := (olen cEdge Tryd.prog 22 2 l (by kernel_rfl))
    have e_4 := (ac g_2 (ac g_2 (ac g_2 (ac g_2 (ac g_3 (ac g_2 g_2))))))
    by_cases c2 : x.edge ≥ ((l.length : Nat) : Int)
    · have h := h.1 c2
      rw [h]
      exact sr (ids := []) (vs := [.agg [int x.edge, int x.at_]]) (mem := []) (ac e_4 (abt (dec_t c2))) (by kernel_rfl) (by kernel_rfl) (rts_agg (rcs_sc (rcs_sc (rcs_nil rfl))))
    · have h := h.2 c2
      obtain ⟨c3, length1a, length1b, c4, h⟩ := h
      have e_5 := (ac (abf (dec_f c2)) (ac (oidx cEdge c3) (ocs c4)))
      by_cases c5 : x.at_ ≥ 0
      · have h := h.1 c5
        have g_6 := (abt (dec_t c5))
        have e_7 := (ac g_6 (ac g_6 (ac g_6 (ac g_6 g_6))))
        by_cases c6 : x.at_ ≤ length1a
        · have h := h.1 c6
          obtain ⟨c7, c8, c9, h⟩ := h
          have g_8 := (osub Tryd.prog 3 (wi64 c7))
          rw [h]
          exact sr (ids := []) (vs := [.agg [int ((((l.length : Nat) : Int) - x.edge).tmod ((l.length : Nat) : Int)), int (length1a - x.at_)]]) (mem := []) (ac e_4 (ac e_5 (ac e_7 (ac (abt (dec_t c6)) (ac g_8 (ac g_3 (ac (osub Tryd.prog 3 (wi64 c8)) (ac g_3 (orem Tryd.prog 3 .i64 (((l.length : Nat) : Int) - x.edge) ((l.length : Nat) : Int) c9))))))))) (by kernel_rfl) (by kernel_rfl) (rts_agg (rcs_sc (rcs_sc (rcs_nil rfl))))
        · have h := h.2 c6
          obtain ⟨c7, c8, h⟩ := h
          have g_9 := (osub Tryd.prog 3 (wi64 c7))
          rw [h]
          exact sr (ids := []) (vs := [.agg [int ((((l.length : Nat) : Int) - x.edge).tmod ((l.length : Nat) : Int)), int 0]]) (mem := []) (ac e_4 (ac e_5 (ac e_7 (ac (abf (dec_f c6)) (ac g_3 (ac g_9 (ac g_3 (orem Tryd.prog 3 .i64 (((l.length : Nat) : Int) - x.edge) ((l.length : Nat) : Int) c8)))))))) (by kernel_rfl) (by kernel_rfl) (rts_agg (rcs_sc (rcs_sc (rcs_nil rfl))))
      · have h := h.2 c5
        obtain ⟨c6, c7, h⟩ := h
        have g_10 := (abf (dec_f c5))
        rw [h]
        exact sr (ids := []) (vs := [.agg [int ((((l.length : Nat) : Int) - x.edge).tmod ((l.length : Nat) : Int)), int 0]]) (mem := []) (ac e_4 (ac e_5 (ac g_10 (ac g_10 (ac g_10 (ac g_10 (ac g_10 (ac abff (ac g_3 (ac (osub Tryd.prog 3 (wi64 c6)) (ac g_3 (orem Tryd.prog 3 .i64 (((l.length : Nat) : Int) - x.edge) ((l.length : Nat) : Int) c7)))))))))))) (by kernel_rfl) (by kernel_rfl) (rts_agg (rcs_sc (rcs_sc (rcs_nil rfl))))

-- turn.Poly
def turn_Poly_S0 (t0 : Turn) (p : List Spot) (v14 : Int) (w5 : List Spot) : AS := ⟨[(1, .sl 2 (p.map cSpot)), (2, .ptr 0 0 0), (5, .own 1 0 w5.length), (12, .sl 2 (p.map cSpot)), (13, int ((p.length : Nat) : Int)), (14, int v14)], [(0, .box [boo t0.flip, int t0.quarter]), (1, .row 2 (w5.map cSpot))], 2⟩
abbrev turn_Poly_V (t0 : Turn) (p : List Spot) (r0 : List Spot) (I0 : Int → (List Spot) → Prop) (M0 : Int → (List Spot) → Nat) : Prop := (0 ≤ ((p.length : Nat) : Int)) ∧ (((p.length : Nat) : Int) * 16 ≤ 140737488355328) ∧ (((p.length : Nat) : Int) ≤ 9223372036854775807) ∧ I0 0 (List.replicate (((p.length : Nat) : Int) : Int).toNat (⟨0, 0⟩ : Spot))
abbrev turn_Poly_V0 (t0 : Turn) (p : List Spot) (r0 : List Spot) (I0 : Int → (List Spot) → Prop) (M0 : Int → (List Spot) → Nat) (v14 : Int) (w5 : List Spot) : Prop := ((v14 < ((p.length : Nat) : Int) → (Idx v14 p.length) ∧ ((t0.flip = true → (InR (((p.length : Nat) : Int) - 1)) ∧ (InR ((((p.length : Nat) : Int) - 1) - v14)) ∧ (∃ (apply1 : Spot), Ret Tryd.prog XS 29 [.agg [boo t0.flip, int t0.quarter], .agg [int ((ai p v14).x), int ((ai p v14).y)]] (.agg [int apply1.x, int apply1.y]) ∧ (Idx ((((p.length : Nat) : Int) - 1) - v14) w5.length) ∧ (InR (v14 + 1)) ∧ I0 (v14 + 1) (w5.set (((((p.length : Nat) : Int) - 1) - v14) : Int).toNat apply1) ∧ M0 (v14 + 1) (w5.set (((((p.length : Nat) : Int) - 1) - v14) : Int).toNat apply1) < M0 v14 w5)) ∧ (t0.flip = false → (∃ (apply1 : Spot), Ret Tryd.prog XS 29 [.agg [boo t0.flip, int t0.quarter], .agg [int ((ai p v14).x), int ((ai p v14).y)]] (.agg [int apply1.x, int apply1.y]) ∧ (Idx v14 w5.length) ∧ (InR (v14 + 1)) ∧ I0 (v14 + 1) (w5.set (v14 : Int).toNat apply1) ∧ M0 (v14 + 1) (w5.set (v14 : Int).toNat apply1) < M0 v14 w5)))) ∧ (¬ (v14 < ((p.length : Nat) : Int)) → r0 = w5))
theorem turn_Poly_W0 (t0 : Turn) (p : List Spot) (r0 : List Spot) (I0 : Int → (List Spot) → Prop) (M0 : Int → (List Spot) → Nat) (h0 : ∀ (v14 : Int) (w5 : List Spot), I0 v14 w5 → turn_Poly_V0 t0 p r0 I0 M0 v14 w5) : ∀ (x : Int × (List Spot)), I0 x.1 x.2 → loopQ Tryd.prog XS Tryd.f31 0 (.fr 2 (r0.map cSpot)) [] (turn_Poly_S0 t0 p x.1 x.2) := by
  intro x0 hx0
  refine loop_rule (fun (x : Int × (List Spot)) => I0 x.1 x.2) (fun (x : Int × (List Spot)) => M0 x.1 x.2) (fun (x : Int × (List Spot)) => turn_Poly_S0 t0 p x.1 x.2) x0 hx0 ?_
  rintro ⟨v14, w5⟩ hx
  have h := h0 v14 w5 hx
  clear hx hx0 x0
  by_cases c1 : v14 < ((p.length : Nat) : Int)
  · have h := h.1 c1
    obtain ⟨c2, h⟩ := h
    have e_1 := (ac (abt (dec_t c1)) (oidx cSpot c2))
    rcases Bool.eq_false_or_eq_true t0.flip with c3 | c3
    · have h := h.1 c3
      obtain ⟨c4, c5, apply1, c6, c7, c8, h⟩ := h
      have g_2 := (olen cSpot Tryd.prog 24 2 p (by kernel_rfl))
      exact sb (ts := [1, 2, 5, 12, 13, 14]) (ids := [0, 1]) (d := 0) (s0 := ⟨[(1, .sl 2 (p.map cSpot)), (2, .ptr 0 0 0), (5, .own 1 0 w5.length), (12, .sl 2 (p.map cSpot)), (13, int ((p.length : Nat) : Int)), (14, int (v14 + 1))], [(0, .box [boo t0.flip, int t0.quarter]), (1, .row 2 ((w5.set (((((p.length : Nat) : Int) - 1) - v14) : Int).toNat apply1).map cSpot))], 3⟩) (ac e_1 (ac (abt c3) (ac g_2 (ac (osub Tryd.prog 3 (wi64 c4)) (ac (osub Tryd.prog 3 (wi64 c5)) (ac (ocs c6) (ac (oown cSpot (n := w5.length) rfl c7) (ac (oset cSpot apply1 c7) (oadd Tryd.prog 3 (wi64 c8)))))))))) (by kernel_rfl) (by kernel_rfl) rfl ((v14 + 1), (w5.set (((((p.length : Nat) : Int) - 1) - v14) : Int).toNat apply1)) h.1 h.2 (Weak.anew [(0, some 0), (1, some 1)] (by rfl) (wt_cons rfl wk_sl (wt_cons rfl (wk_ptr rfl) (wt_cons rfl (wk_own rfl (by simp)) (wt_cons rfl wk_sl (wt_cons rfl wk_sc (wt_cons rfl wk_sc wt_nil)))))) (wm_box rfl rfl (wl_cons wk_sc (wl_cons wk_sc wl_nil)) (wm_row rfl rfl wm_nil)))
    · have h := h.2 c3
      obtain ⟨apply1, c4, c5, c6, h⟩ := h
      exact sb (ts := [1, 2, 5, 12, 13, 14]) (ids := [0, 1]) (d := 0) (s0 := ⟨[(1, .sl 2 (p.map cSpot)), (2, .ptr 0 0 0), (5, .own 1 0 w5.length), (12, .sl 2 (p.map cSpot)), (13, int ((p.length : Nat) : Int)), (14, int (v14 + 1))], [(0, .box [boo t0.flip, int t0.quarter]), (1, .row 2 ((w5.set (v14 : Int).toNat apply1).map cSpot))], 3⟩) (ac e_1 (ac (abf c3) (ac (ocs c4) (ac (oown cSpot (n := w5.length) rfl c5) (ac (oset cSpot apply1 c5) (oadd Tryd.prog 3 (wi64 c6))))))) (by kernel_rfl) (by kernel_rfl) rfl ((v14 + 1), (w5.set (v14 : Int).toNat apply1)) h.1 h.2 (Weak.anew [(0, some 0), (1, some 1)] (by rfl) (wt_cons rfl wk_sl (wt_cons rfl (wk_ptr rfl) (wt_cons rfl (wk_own rfl (by simp)) (wt_cons rfl wk_sl (wt_cons rfl wk_sc (wt_cons rfl wk_sc wt_nil)))))) (wm_box rfl rfl (wl_cons wk_sc (wl_cons wk_sc wl_nil)) (wm_row rfl rfl wm_nil)))
  · have h := h.2 c1
    rw [h]
    exact sr (ids := [1]) (vs := [.own 1 0 w5.length]) (mem := [(1, .row 2 (w5.map cSpot))]) (abf (dec_f c1)) (by kernel_rfl) (by kernel_rfl) (rts_own rfl rfl rfl rfl)
theorem turn_Poly_W (t0 : Turn) (p : List Spot) (r0 : List Spot) (I0 : Int → (List Spot) → Prop) (M0 : Int → (List Spot) → Nat) (h : turn_Poly_V t0 p r0 I0 M0) (h0 : ∀ (v14 : Int) (w5 : List Spot), I0 v14 w5 → turn_Poly_V0 t0 p r0 I0 M0 v14 w5) : Ret Tryd.prog XS 31 [.agg [boo t0.flip, int t0.quarter], .sl 2 (p.map cSpot)] (.fr 2 (r0.map cSpot)) := by
  refine fn_rule Tryd.func31 (by kernel_rfl) (by kernel_rfl) (by kernel_rfl) (by kernel_rfl) ?_
  obtain ⟨c1, c2, c3, h⟩ := h
  have g_3 := (olen cSpot Tryd.prog 24 2 p (by kernel_rfl))
  exact sl (ts := [1, 2, 5, 12, 13, 14]) (ids := [0, 1]) (d := 0) (s0 := ⟨[(1, .sl 2 (p.map cSpot)), (2, .ptr 0 0 0), (5, .own 1 0 ((List.replicate (((p.length : Nat) : Int) : Int).toNat (⟨0, 0⟩ : Spot)).length)), (12, .sl 2 (p.map cSpot)), (13, int ((p.length : Nat) : Int)), (14, int 0)], [(0, .box [boo t0.flip, int t0.quarter]), (1, .row 2 ((List.replicate (((p.length : Nat) : Int) : Int).toNat (⟨0, 0⟩ : Spot)).map cSpot))], 2⟩) (ac g_3 (ac (omake cSpot (v := (⟨0, 0⟩ : Spot)) (z := [int 0, int 0]) (l := ((p.length : Nat) : Int)) (b := 16) rfl c1 c2 c3) g_3)) (by kernel_rfl) (by kernel_rfl) (Weak.anew [(0, some 0), (1, some 1)] (by rfl) (wt_cons rfl wk_sl (wt_cons rfl (wk_ptr rfl) (wt_cons rfl (wk_own rfl rfl) (wt_cons rfl wk_sl (wt_cons rfl wk_sc (wt_cons rfl wk_sc wt_nil)))))) (wm_box rfl rfl (wl_cons wk_sc (wl_cons wk_sc wl_nil)) (wm_row rfl rfl wm_nil))) (turn_Poly_W0 t0 p r0 I0 M0 h0 (0, (List.replicate (((p.length : Nat) : Int) : Int).toNat (⟨0, 0⟩ : Spot))) h)

-- outline.Polygon
-- polygon.Area2
-- outline.edges
def outline_edges_S0 (l : List Edge) (v8 : Int) : AS := ⟨[(0, .sl 2 (l.map cEdge)), (6, .sl 2 (l.map cEdge)), (7, int ((l.length : Nat) : Int)), (8, int v8)], [], 0⟩
abbrev outline_edges_V (l : List Edge) (r0 : Int) (I0 : Int → Prop) (M0 : Int → Nat) : Prop := I0 0
abbrev outline_edges_V0 (l : List Edge) (r0 : Int) (I0 : Int → Prop) (M0 : Int → Nat) (v8 : Int) : Prop := ((v8 < ((l.length : Nat) : Int) → (Idx v8 l.length) ∧ (∃ (named1 : Bool), Ret Tryd.prog XS 43 [str ((ai l v8).name)] (boo named1) ∧ ((named1 = true → (Slc 0 v8 l.length) ∧ (∃ (edge2 : Bool), Ret Tryd.prog XS 44 [.sl 2 ((cut l 0 v8).map cEdge), .fn 45 [] [.ref [str ((ai l v8).name), .sl 2 (((ai l v8).line).map cSpot)]]] (boo edge2) ∧ ((edge2 = true → r0 = 7) ∧ (edge2 = false → (∃ (check3 : Int), Ret Tryd.prog XS 38 [.sl 2 (((ai l v8).line).map cSpot)] (int check3) ∧ ((check3 = 0 → (InR (v8 + 1)) ∧ I0 (v8 + 1) ∧ M0 (v8 + 1) < M0 v8) ∧ (¬ (check3 = 0) → r0 = check3))))))) ∧ (named1 = false → r0 = 1)))) ∧ (¬ (v8 < ((l.length : Nat) : Int)) → r0 = 0))
theorem outline_edges_W0 (l : List Edge) (r0 : Int) (I0 : Int → Prop) (M0 : Int → Nat) (h0 : ∀ (v8 : Int), I0 v8 → outline_edges_V0 l r0 I0 M0 v8) : ∀ (x : Int), I0 x → loopQ Tryd.prog XS Tryd.f35 0 (int r0) [] (outline_edges_S0 l x) := by
  intro x0 hx0
  refine loop_rule (fun (x : Int) => I0 x) (fun (x : Int) => M0 x) (fun (x : Int) => outline_edges_S0 l x) x0 hx0 ?_
  intro v8 hx
  have h := h0 v8 hx
  clear hx hx0 x0
  by_cases c1 : v8 < ((l.length : Nat) : Int)
  · have h := h.1 c1
    obtain ⟨c2, named1, c3, h⟩ := h
    have e_1 := (ac (abt (dec_t c1)) (ac (oidx cEdge c2) (ocs c3)))
    rcases Bool.eq_false_or_eq_true named1 with c4 | c4
    · have h := h.1 c4
      obtain ⟨c5, edge2, c6, h⟩ := h
      have e_2 := (ac (abf (not_f c4)) (ac (ocut0 cEdge 2 c5) (ocl [0] [(0, .box [str ((ai l v8).name), .sl 2 (((ai l v8).line).map cSpot)])] [.sl 2 ((cut l 0 v8).map cEdge), .fn 45 [] [.ptr 0 0 0]] (as_cons (ArgTo.same rfl) (as_cons (at_fn as_nil (as_cons (at_ptr rfl (as_cons (ArgTo.same rfl) (as_cons (ArgTo.same rfl) as_nil))) as_nil)) as_nil)) c6)))
      rcases Bool.eq_false_or_eq_true edge2 with c7 | c7
      · have h := h.1 c7
        rw [h]
        exact sr (ids := []) (vs := [int 7]) (mem := []) (ac e_1 (ac e_2 (abt c7))) (by kernel_rfl) (by kernel_rfl) (rts_sc rfl)
      · have h := h.2 c7
        obtain ⟨check3, c8, h⟩ := h
        have e_3 := (ac (abf c7) (ocs c8))
        by_cases c9 : check3 = 0
        · have h := h.1 c9
          obtain ⟨c10, h⟩ := h
          exact sb (ts := [0, 6, 7, 8]) (ids := []) (d := 0) (s0 := ⟨[(0, .sl 2 (l.map cEdge)), (6, .sl 2 (l.map cEdge)), (7, int ((l.length : Nat) : Int)), (8, int (v8 + 1))], [], 1⟩) (ac e_1 (ac e_2 (ac e_3 (ac (abf (bne_f c9)) (oadd Tryd.prog 3 (wi64 c10)))))) (by kernel_rfl) (by kernel_rfl) rfl (v8 + 1) h.1 h.2 (Weak.anew [] (by rfl) (wt_cons rfl wk_sl (wt_cons rfl wk_sl (wt_cons rfl wk_sc (wt_cons rfl wk_sc wt_nil)))) wm_nil)
        · have h := h.2 c9
          rw [h]
          exact sr (ids := []) (vs := [int check3]) (mem := []) (ac e_1 (ac e_2 (ac e_3 (abt (bne_t c9))))) (by kernel_rfl) (by kernel_rfl) (rts_sc rfl)
    · have h := h.2 c4
      rw [h]
      exact sr (ids := []) (vs := [int 1]) (mem := []) (ac e_1 (abt (not_t c4))) (by kernel_rfl) (by kernel_rfl) (rts_sc rfl)
  · have h := h.2 c1
    rw [h]
    exact sr (ids := []) (vs := [int 0]) (mem := []) (abf (dec_f c1)) (by kernel_rfl) (by kernel_rfl) (rts_sc rfl)
theorem outline_edges_W (l : List Edge) (r0 : Int) (I0 : Int → Prop) (M0 : Int → Nat) (h : outline_edges_V l r0 I0 M0) (h0 : ∀ (v8 : Int), I0 v8 → outline_edges_V0 l r0 I0 M0 v8) : Ret Tryd.prog XS 35 [.sl 2 (l.map cEdge)] (int r0) := by
  refine fn_rule Tryd.func35 (by kernel_rfl) (by kernel_rfl) (by kernel_rfl) (by kernel_rfl) ?_
  exact sl (ts := [0, 6, 7, 8]) (ids := []) (d := 0) (s0 := ⟨[(0, .sl 2 (l.map cEdge)), (6, .sl 2 (l.map cEdge)), (7, int ((l.length : Nat) : Int)), (8, int 0)], [], 0⟩) (olen cEdge Tryd.prog 22 2 l (by kernel_rfl)) (by kernel_rfl) (by kernel_rfl) (Weak.anew [] (by rfl) (wt_cons rfl wk_sl (wt_cons rfl wk_sl (wt_cons rfl wk_sc (wt_cons rfl wk_sc wt_nil)))) wm_nil) (outline_edges_W0 l r0 I0 M0 h0 0 h)

end Go.Ab
end

section
namespace Go.Ab
open Go.Proofs
set_option maxRecDepth 100000
set_option linter.unusedVariables false
attribute [local irreducible] todoQ
-- polygon.Check
def polygon_Check_S0 (p : List Spot) (v13 : Int) : AS := ⟨[(0, .sl 2 (p.map cSpot)), (11, .sl 2 (p.map cSpot)), (12, int ((p.length : Nat) : Int)), (13, int v13)], [], 0⟩
abbrev polygon_Check_V (p : List Spot) (r0 : Int) (I0 : Int → Prop) (M0 : Int → Nat) : Prop := ((((p.length : Nat) : Int) > 40 → r0 = 5) ∧ (¬ (((p.length : Nat) : Int) > 40) → ((((p.length : Nat) : Int) < 3 → r0 = 11) ∧ (¬ (((p.length : Nat) : Int) < 3) → I0 0))))
abbrev polygon_Check_V0 (p : List Spot) (r0 : Int) (I0 : Int → Prop) (M0 : Int → Nat) (v13 : Int) : Prop := ((v13 < ((p.length : Nat) : Int) → (Idx v13 p.length) ∧ (∃ (inside1 : Bool), Ret Tryd.prog XS 46 [int ((ai p v13).x)] (boo inside1) ∧ ((inside1 = true → (∃ (inside2 : Bool), Ret Tryd.prog XS 46 [int ((ai p v13).y)] (boo inside2) ∧ ((inside2 = true → (InR (v13 + 1)) ∧ I0 (v13 + 1) ∧ M0 (v13 + 1) < M0 v13) ∧ (inside2 = false → r0 = 3)))) ∧ (inside1 = false → r0 = 3)))) ∧ (¬ (v13 < ((p.length : Nat) : Int)) → (∃ (simple1 : Bool), Ret Tryd.prog XS 47 [.sl 2 (p.map cSpot)] (boo simple1) ∧ ((simple1 = true → r0 = 0) ∧ (simple1 = false → r0 = 11)))))
theorem polygon_Check_W0 (p : List Spot) (r0 : Int) (I0 : Int → Prop) (M0 : Int → Nat) (h0 : ∀ (v13 : Int), I0 v13 → polygon_Check_V0 p r0 I0 M0 v13) : ∀ (x : Int), I0 x → loopQ Tryd.prog XS Tryd.f36 0 (int r0) [] (polygon_Check_S0 p x) := by
  intro x0 hx0
  refine loop_rule (fun (x : Int) => I0 x) (fun (x : Int) => M0 x) (fun (x : Int) => polygon_Check_S0 p x) x0 hx0 ?_
  intro v13 hx
  have h := h0 v13 hx
  clear hx hx0 x0
  by_cases c1 : v13 < ((p.length : Nat) : Int)
  · have h := h.1 c1
    obtain ⟨c2, inside1, c3, h⟩ := h
    have g_1 := (abt (dec_t c1))
    have e_2 := (ac g_1 (ac (oidx cSpot c2) (ocs c3)))
    rcases Bool.eq_false_or_eq_true inside1 with c4 | c4
    · have h := h.1 c4
      obtain ⟨inside2, c5, h⟩ := h
      have g_3 := (abf (not_f c4))
      have e_4 := (ac g_3 (ac g_3 (ac g_3 (ac (ocs c5) (ac g_3 g_3)))))
      rcases Bool.eq_false_or_eq_true inside2 with c6 | c6
      · have h := h.1 c6
        obtain ⟨c7, h⟩ := h
        exact sb (ts := [0, 11, 12, 13]) (ids := []) (d := 0) (s0 := ⟨[(0, .sl 2 (p.map cSpot)), (11, .sl 2 (p.map cSpot)), (12, int ((p.length : Nat) : Int)), (13, int (v13 + 1))], [], 1⟩) (ac e_2 (ac e_4 (ac (abf (not_f c6)) (oadd Tryd.prog 3 (wi64 c7))))) (by kernel_rfl) (by kernel_rfl) rfl (v13 + 1) h.1 h.2 (Weak.anew [] (by rfl) (wt_cons rfl wk_sl (wt_cons rfl wk_sl (wt_cons rfl wk_sc (wt_cons rfl wk_sc wt_nil)))) wm_nil)
      · have h := h.2 c6
        rw [h]
        exact sr (ids := []) (vs := [int 3]) (mem := []) (ac e_2 (ac e_4 (abt (not_t c6)))) (by kernel_rfl) (by kernel_rfl) (rts_sc rfl)
    · have h := h.2 c4
      have g_5 := (abt (not_t c4))
      rw [h]
      exact sr (ids := []) (vs := [int 3]) (mem := []) (ac e_2 (ac g_5 (ac g_5 (ac g_5 (ac g_5 (ac g_5 abtt)))))) (by kernel_rfl) (by kernel_rfl) (rts_sc rfl)
  · have h := h.2 c1
    obtain ⟨simple1, c2, h⟩ := h
    have g_6 := (abf (dec_f c1))
    have e_7 := (ac g_6 (ocs c2))
    rcases Bool.eq_false_or_eq_true simple1 with c3 | c3
    · have h := h.1 c3
      rw [h]
      exact sr (ids := []) (vs := [int 0]) (mem := []) (ac e_7 (abf (not_f c3))) (by kernel_rfl) (by kernel_rfl) (rts_sc rfl)
    · have h := h.2 c3
      rw [h]
      exact sr (ids := []) (vs := [int 11]) (mem := []) (ac e_7 (abt (not_t c3))) (by kernel_rfl) (by kernel_rfl) (rts_sc rfl)
theorem polygon_Check_W (p : List Spot) (r0 : Int) (I0 : Int → Prop) (M0 : Int → Nat) (h : polygon_Check_V p r0 I0 M0) (h0 : ∀ (v13 : Int), I0 v13 → polygon_Check_V0 p r0 I0 M0 v13) : Ret Tryd.prog XS 36 [.sl 2 (p.map cSpot)] (int r0) := by
  refine fn_rule Tryd.func36 (by kernel_rfl) (by kernel_rfl) (by kernel_rfl) (by kernel_rfl) ?_
  have g_8 := (olen cSpot Tryd.prog 24 2 p (by kernel_rfl))
  by_cases c1 : ((p.length : Nat) : Int) > 40
  · have h := h.1 c1
    have g_9 := (abt (dec_t c1))
    rw [h]
    exact sr (ids := []) (vs := [int 5]) (mem := []) (ac g_8 g_9) (by kernel_rfl) (by kernel_rfl) (rts_sc rfl)
  · have h := h.2 c1
    have g_10 := (abf (dec_f c1))
    have e_11 := (ac g_10 g_8)
    by_cases c2 : ((p.length : Nat) : Int) < 3
    · have h := h.1 c2
      rw [h]
      exact sr (ids := []) (vs := [int 11]) (mem := []) (ac g_8 (ac e_11 (abt (dec_t c2)))) (by kernel_rfl) (by kernel_rfl) (rts_sc rfl)
    · have h := h.2 c2
      exact sl (ts := [0, 11, 12, 13]) (ids := []) (d := 0) (s0 := ⟨[(0, .sl 2 (p.map cSpot)), (11, .sl 2 (p.map cSpot)), (12, int ((p.length : Nat) : Int)), (13, int 0)], [], 0⟩) (ac g_8 (ac e_11 (ac (abf (dec_f c2)) g_8))) (by kernel_rfl) (by kernel_rfl) (Weak.anew [] (by rfl) (wt_cons rfl wk_sl (wt_cons rfl wk_sl (wt_cons rfl wk_sc (wt_cons rfl wk_sc wt_nil)))) wm_nil) (polygon_Check_W0 p r0 I0 M0 h0 0 h)

-- outline.vertices
def outline_vertices_S0 (l : List Edge) (out3 : List Spot) (v8 : Int) : AS := ⟨[(3, .own 0 0 out3.length), (6, .sl 2 (l.map cEdge)), (7, int ((l.length : Nat) : Int)), (8, int v8)], [(0, .row 2 (out3.map cSpot))], 1⟩
abbrev outline_vertices_V (l : List Edge) (r0 : List Spot) (I0 : (List Spot) → Int → Prop) (M0 : (List Spot) → Int → Nat) : Prop := I0 ([] : List Spot) 0
abbrev outline_vertices_V0 (l : List Edge) (r0 : List Spot) (I0 : (List Spot) → Int → Prop) (M0 : (List Spot) → Int → Nat) (out3 : List Spot) (v8 : Int) : Prop := ((v8 < ((l.length : Nat) : Int) → (Idx v8 l.length) ∧ (InR (((((ai l v8).line).length : Nat) : Int) - 1)) ∧ (Slc 0 (((((ai l v8).line).length : Nat) : Int) - 1) ((ai l v8).line).length) ∧ (Cap 16 (out3 ++ (cut ((ai l v8).line) 0 (((((ai l v8).line).length : Nat) : Int) - 1))).length) ∧ (InR (v8 + 1)) ∧ I0 (out3 ++ (cut ((ai l v8).line) 0 (((((ai l v8).line).length : Nat) : Int) - 1))) (v8 + 1) ∧ M0 (out3 ++ (cut ((ai l v8).line) 0 (((((ai l v8).line).length : Nat) : Int) - 1))) (v8 + 1) < M0 out3 v8) ∧ (¬ (v8 < ((l.length : Nat) : Int)) → r0 = out3))
theorem outline_vertices_W0 (l : List Edge) (r0 : List Spot) (I0 : (List Spot) → Int → Prop) (M0 : (List Spot) → Int → Nat) (h0 : ∀ (out3 : List Spot) (v8 : Int), I0 out3 v8 → outline_vertices_V0 l r0 I0 M0 out3 v8) : ∀ (x : (List Spot) × Int), I0 x.1 x.2 → loopQ Tryd.prog XS Tryd.f37 0 (.fr 2 (r0.map cSpot)) [] (outline_vertices_S0 l x.1 x.2) := by
  intro x0 hx0
  refine loop_rule (fun (x : (List Spot) × Int) => I0 x.1 x.2) (fun (x : (List Spot) × Int) => M0 x.1 x.2) (fun (x : (List Spot) × Int) => outline_vertices_S0 l x.1 x.2) x0 hx0 ?_
  rintro ⟨out3, v8⟩ hx
  have h := h0 out3 v8 hx
  clear hx hx0 x0
  by_cases c1 : v8 < ((l.length : Nat) : Int)
  · have h := h.1 c1
    obtain ⟨c2, c3, c4, c5, c6, h⟩ := h
    exact sb (ts := [3, 6, 7, 8]) (ids := [2]) (d := 0) (s0 := ⟨[(3, .own 2 0 ((out3 ++ (cut ((ai l v8).line) 0 (((((ai l v8).line).length : Nat) : Int) - 1))).length)), (6, .sl 2 (l.map cEdge)), (7, int ((l.length : Nat) : Int)), (8, int (v8 + 1))], [(2, .row 2 ((out3 ++ (cut ((ai l v8).line) 0 (((((ai l v8).line).length : Nat) : Int) - 1))).map cSpot))], 3⟩) (ac (abt (dec_t c1)) (ac (oidx cEdge c2) (ac (olen cSpot Tryd.prog 24 2 ((ai l v8).line) (by kernel_rfl)) (ac (osub Tryd.prog 3 (wi64 c3)) (ac (ocut0 cSpot 2 c4) (ac (oapp cSpot (n := out3.length) rfl c5) (oadd Tryd.prog 3 (wi64 c6)))))))) (by kernel_rfl) (by kernel_rfl) rfl ((out3 ++ (cut ((ai l v8).line) 0 (((((ai l v8).line).length : Nat) : Int) - 1))), (v8 + 1)) h.1 h.2 (Weak.anew [(0, some 2)] (by rfl) (wt_cons rfl (wk_own rfl rfl) (wt_cons rfl wk_sl (wt_cons rfl wk_sc (wt_cons rfl wk_sc wt_nil)))) (wm_row rfl rfl wm_nil))
  · have h := h.2 c1
    rw [h]
    exact sr (ids := [0]) (vs := [.own 0 0 out3.length]) (mem := [(0, .row 2 (out3.map cSpot))]) (abf (dec_f c1)) (by kernel_rfl) (by kernel_rfl) (rts_own rfl rfl rfl rfl)
theorem outline_vertices_W (l : List Edge) (r0 : List Spot) (I0 : (List Spot) → Int → Prop) (M0 : (List Spot) → Int → Nat) (h : outline_vertices_V l r0 I0 M0) (h0 : ∀ (out3 : List Spot) (v8 : Int), I0 out3 v8 → outline_vertices_V0 l r0 I0 M0 out3 v8) : Ret Tryd.prog XS 37 [.sl 2 (l.map cEdge)] (.fr 2 (r0.map cSpot)) := by
  refine fn_rule Tryd.func37 (by kernel_rfl) (by kernel_rfl) (by kernel_rfl) (by kernel_rfl) ?_
  exact sl (ts := [3, 6, 7, 8]) (ids := []) (d := 0) (s0 := ⟨[(3, .nil), (6, .sl 2 (l.map cEdge)), (7, int ((l.length : Nat) : Int)), (8, int 0)], [], 0⟩) (olen cEdge Tryd.prog 22 2 l (by kernel_rfl)) (by kernel_rfl) (by kernel_rfl) (Weak.anew [(0, none)] (by rfl) (wt_cons rfl (wk_nilown rfl) (wt_cons rfl wk_sl (wt_cons rfl wk_sc (wt_cons rfl wk_sc wt_nil)))) (wm_none rfl wm_nil)) (outline_vertices_W0 l r0 I0 M0 h0 (([] : List Spot), 0) h)

-- polyline.Check
def polyline_Check_S0 (l : List Spot) (v16 : Int) : AS := ⟨[(0, .sl 2 (l.map cSpot)), (14, .sl 2 (l.map cSpot)), (15, int ((l.length : Nat) : Int)), (16, int v16)], [], 0⟩
def polyline_Check_S1 (l : List Spot) (i5 : Int) : AS := ⟨[(0, .sl 2 (l.map cSpot)), (5, int i5)], [], 0⟩
abbrev polyline_Check_V (l : List Spot) (r0 : Int) (I0 : Int → Prop) (M0 : Int → Nat) (I1 : Int → Prop) (M1 : Int → Nat) : Prop := ((((l.length : Nat) : Int) > 40 → r0 = 5) ∧ (¬ (((l.length : Nat) : Int) > 40) → ((((l.length : Nat) : Int) < 2 → r0 = 11) ∧ (¬ (((l.length : Nat) : Int) < 2) → I0 0))))
abbrev polyline_Check_V0 (l : List Spot) (r0 : Int) (I0 : Int → Prop) (M0 : Int → Nat) (I1 : Int → Prop) (M1 : Int → Nat) (v16 : Int) : Prop := ((v16 < ((l.length : Nat) : Int) → (Idx v16 l.length) ∧ (∃ (coord1 : Bool), Ret Tryd.prog XS 48 [int ((ai l v16).x)] (boo coord1) ∧ ((coord1 = true → (∃ (coord2 : Bool), Ret Tryd.prog XS 48 [int ((ai l v16).y)] (boo coord2) ∧ ((coord2 = true → (InR (v16 + 1)) ∧ I0 (v16 + 1) ∧ M0 (v16 + 1) < M0 v16) ∧ (coord2 = false → r0 = 3)))) ∧ (coord1 = false → r0 = 3)))) ∧ (¬ (v16 < ((l.length : Nat) : Int)) → I1 1))
abbrev polyline_Check_V1 (l : List Spot) (r0 : Int) (I0 : Int → Prop) (M0 : Int → Nat) (I1 : Int → Prop) (M1 : Int → Nat) (i5 : Int) : Prop := ((i5 < ((l.length : Nat) : Int) → (Idx i5 l.length) ∧ (InR (i5 - 1)) ∧ (Idx (i5 - 1) l.length) ∧ (((ai l i5) = (ai l (i5 - 1)) → r0 = 11) ∧ (¬ ((ai l i5) = (ai l (i5 - 1))) → (InR (i5 + 1)) ∧ I1 (i5 + 1) ∧ M1 (i5 + 1) < M1 i5))) ∧ (¬ (i5 < ((l.length : Nat) : Int)) → r0 = 0))
theorem polyline_Check_W1 (l : List Spot) (r0 : Int) (I0 : Int → Prop) (M0 : Int → Nat) (I1 : Int → Prop) (M1 : Int → Nat) (h0 : ∀ (v16 : Int), I0 v16 → polyline_Check_V0 l r0 I0 M0 I1 M1 v16) (h1 : ∀ (i5 : Int), I1 i5 → polyline_Check_V1 l r0 I0 M0 I1 M1 i5) : ∀ (x : Int), I1 x → loopQ Tryd.prog XS Tryd.f38 1 (int r0) [] (polyline_Check_S1 l x) := by
  intro x0 hx0
  refine loop_rule (fun (x : Int) => I1 x) (fun (x : Int) => M1 x) (fun (x : Int) => polyline_Check_S1 l x) x0 hx0 ?_
  intro i5 hx
  have h := h1 i5 hx
  clear hx hx0 x0
  have g_1 := (olen cSpot Tryd.prog 24 2 l (by kernel_rfl))
  by_cases c1 : i5 < ((l.length : Nat) : Int)
  · have h := h.1 c1
    obtain ⟨c2, c3, c4, h⟩ := h
    have g_2 := (abt (dec_t c1))
    have g_3 := (oidx cSpot c2)
    have e_4 := (ac g_2 (ac g_3 (ac (osub Tryd.prog 3 (wi64 c3)) (oidx cSpot c4))))
    by_cases c5 : (ai l i5) = (ai l (i5 - 1))
    · have h := h.1 c5
      rw [h]
      exact sr (ids := []) (vs := [int 11]) (mem := []) (ac g_1 (ac e_4 (abt (sSpot_t c5)))) (by kernel_rfl) (by kernel_rfl) (rts_sc rfl)
    · have h := h.2 c5
      obtain ⟨c6, h⟩ := h
      exact sb (ts := [0, 5]) (ids := []) (d := 0) (s0 := ⟨[(0, .sl 2 (l.map cSpot)), (5, int (i5 + 1))], [], 0⟩) (ac g_1 (ac e_4 (ac (abf (sSpot_f c5)) (oadd Tryd.prog 3 (wi64 c6))))) (by kernel_rfl) (by kernel_rfl) rfl (i5 + 1) h.1 h.2 (Weak.anew [] (by rfl) (wt_cons rfl wk_sl (wt_cons rfl wk_sc wt_nil)) wm_nil)
  · have h := h.2 c1
    have g_5 := (abf (dec_f c1))
    rw [h]
    exact sr (ids := []) (vs := [int 0]) (mem := []) (ac g_1 g_5) (by kernel_rfl) (by kernel_rfl) (rts_sc rfl)
theorem polyline_Check_W0 (l : List Spot) (r0 : Int) (I0 : Int → Prop) (M0 : Int → Nat) (I1 : Int → Prop) (M1 : Int → Nat) (h0 : ∀ (v16 : Int), I0 v16 → polyline_Check_V0 l r0 I0 M0 I1 M1 v16) (h1 : ∀ (i5 : Int), I1 i5 → polyline_Check_V1 l r0 I0 M0 I1 M1 i5) : ∀ (x : Int), I0 x → loopQ Tryd.prog XS Tryd.f38 0 (int r0) [] (polyline_Check_S0 l x) := by
  intro x0 hx0
  refine loop_rule (fun (x : Int) => I0 x) (fun (x : Int) => M0 x) (fun (x : Int) => polyline_Check_S0 l x) x0 hx0 ?_
  intro v16 hx
  have h := h0 v16 hx
  clear hx hx0 x0
  by_cases c1 : v16 < ((l.length : Nat) : Int)
  · have h := h.1 c1
    obtain ⟨c2, coord1, c3, h⟩ := h
    have g_6 := (abt (dec_t c1))
    have g_7 := (oidx cSpot c2)
    have e_8 := (ac g_6 (ac g_7 (ocs c3)))
    rcases Bool.eq_false_or_eq_true coord1 with c4 | c4
    · have h := h.1 c4
      obtain ⟨coord2, c5, h⟩ := h
      have g_9 := (abf (not_f c4))
      have e_10 := (ac g_9 (ac g_9 (ac g_9 (ac (ocs c5) (ac g_9 g_9)))))
      rcases Bool.eq_false_or_eq_true coord2 with c6 | c6
      · have h := h.1 c6
        obtain ⟨c7, h⟩ := h
        exact sb (ts := [0, 14, 15, 16]) (ids := []) (d := 0) (s0 := ⟨[(0, .sl 2 (l.map cSpot)), (14, .sl 2 (l.map cSpot)), (15, int ((l.length : Nat) : Int)), (16, int (v16 + 1))], [], 1⟩) (ac e_8 (ac e_10 (ac (abf (not_f c6)) (oadd Tryd.prog 3 (wi64 c7))))) (by kernel_rfl) (by kernel_rfl) rfl (v16 + 1) h.1 h.2 (Weak.anew [] (by rfl) (wt_cons rfl wk_sl (wt_cons rfl wk_sl (wt_cons rfl wk_sc (wt_cons rfl wk_sc wt_nil)))) wm_nil)
      · have h := h.2 c6
        rw [h]
        exact sr (ids := []) (vs := [int 3]) (mem := []) (ac e_8 (ac e_10 (abt (not_t c6)))) (by kernel_rfl) (by kernel_rfl) (rts_sc rfl)
    · have h := h.2 c4
      have g_11 := (abt (not_t c4))
      rw [h]
      exact sr (ids := []) (vs := [int 3]) (mem := []) (ac e_8 (ac g_11 (ac g_11 (ac g_11 (ac g_11 (ac g_11 abtt)))))) (by kernel_rfl) (by kernel_rfl) (rts_sc rfl)
  · have h := h.2 c1
    have g_12 := (abf (dec_f c1))
    exact sl (ts := [0, 5]) (ids := []) (d := 1) (s0 := ⟨[(0, .sl 2 (l.map cSpot)), (5, int 1)], [], 0⟩) g_12 (by kernel_rfl) (by kernel_rfl) (Weak.anew [] (by rfl) (wt_cons rfl wk_sl (wt_cons rfl wk_sc wt_nil)) wm_nil) (polyline_Check_W1 l r0 I0 M0 I1 M1 h0 h1 1 h)
theorem polyline_Check_W (l : List Spot) (r0 : Int) (I0 : Int → Prop) (M0 : Int → Nat) (I1 : Int → Prop) (M1 : Int → Nat) (h : polyline_Check_V l r0 I0 M0 I1 M1) (h0 : ∀ (v16 : Int), I0 v16 → polyline_Check_V0 l r0 I0 M0 I1 M1 v16) (h1 : ∀ (i5 : Int), I1 i5 → polyline_Check_V1 l r0 I0 M0 I1 M1 i5) : Ret Tryd.prog XS 38 [.sl 2 (l.map cSpot)] (int r0) := by
  refine fn_rule Tryd.func38 (by kernel_rfl) (by kernel_rfl) (by kernel_rfl) (by kernel_rfl) ?_
  have g_13 := (olen cSpot Tryd.prog 24 2 l (by kernel_rfl))
  by_cases c1 : ((l.length : Nat) : Int) > 40
  · have h := h.1 c1
    have g_14 := (abt (dec_t c1))
    rw [h]
    exact sr (ids := []) (vs := [int 5]) (mem := []) (ac g_13 g_14) (by kernel_rfl) (by kernel_rfl) (rts_sc rfl)
  · have h := h.2 c1
    have g_15 := (abf (dec_f c1))
    have e_16 := (ac g_15 g_13)
    by_cases c2 : ((l.length : Nat) : Int) < 2
    · have h := h.1 c2
      rw [h]
      exact sr (ids := []) (vs := [int 11]) (mem := []) (ac g_13 (ac e_16 (abt (dec_t c2)))) (by kernel_rfl) (by kernel_rfl) (rts_sc rfl)
    · have h := h.2 c2
      exact sl (ts := [0, 14, 15, 16]) (ids := []) (d := 0) (s0 := ⟨[(0, .sl 2 (l.map cSpot)), (14, .sl 2 (l.map cSpot)), (15, int ((l.length : Nat) : Int)), (16, int 0)], [], 0⟩) (ac g_13 (ac e_16 (ac (abf (dec_f c2)) g_13))) (by kernel_rfl) (by kernel_rfl) (Weak.anew [] (by rfl) (wt_cons rfl wk_sl (wt_cons rfl wk_sl (wt_cons rfl wk_sc (wt_cons rfl wk_sc wt_nil)))) wm_nil) (polyline_Check_W0 l r0 I0 M0 I1 M1 h0 h1 0 h)

-- polyline.segment
abbrev polyline_segment_V (p : Spot) (q : Spot) (r0 : Int) : Prop := (InR (q.x - p.x)) ∧ (InR (q.y - p.y)) ∧ (InR ((q.x - p.x) * (q.x - p.x))) ∧ (InR ((q.y - p.y) * (q.y - p.y))) ∧ (InR (((q.x - p.x) * (q.x - p.x)) + ((q.y - p.y) * (q.y - p.y)))) ∧ (InR (1000000 * (((q.x - p.x) * (q.x - p.x)) + ((q.y - p.y) * (q.y - p.y))))) ∧ (∃ (root1 : Int), Ret Tryd.prog XS 49 [int (1000000 * (((q.x - p.x) * (q.x - p.x)) + ((q.y - p.y) * (q.y - p.y))))] (int root1) ∧ r0 = root1)
theorem polyline_segment_W (p : Spot) (q : Spot) (r0 : Int) (h : polyline_segment_V p q r0) : Ret Tryd.prog XS 39 [.agg [int p.x, int p.y], .agg [int q.x, int q.y]] (int r0) := by
  refine fn_rule Tryd.func39 (by kernel_rfl) (by kernel_rfl) (by kernel_rfl) (by kernel_rfl) ?_
  obtain ⟨c1, c2, c3, c4, c5, c6, root1, c7, h⟩ := h
  rw [h]
  exact sr (ids := []) (vs := [int root1]) (mem := []) (ac (osub Tryd.prog 3 (wi64 c1)) (ac (osub Tryd.prog 3 (wi64 c2)) (ac (omul Tryd.prog 3 (wi64 c3)) (ac (omul Tryd.prog 3 (wi64 c4)) (ac (oadd Tryd.prog 3 (wi64 c5)) (ac (omul Tryd.prog 3 (wi64 c6)) (ocs c7))))))) (by kernel_rfl) (by kernel_rfl) (rts_sc rfl)

-- turn.Norm
abbrev turn_Norm_V (t0 : Turn) (r0 : Turn) : Prop := (InR t0.quarter) ∧ r0 = (⟨t0.flip, (t0.quarter % 4)⟩ : Turn)
theorem turn_Norm_W (t0 : Turn) (r0 : Turn) (h : turn_Norm_V t0 r0) : Ret Tryd.prog XS 40 [.agg [boo t0.flip, int t0.quarter]] (.agg [boo r0.flip, int r0.quarter]) := by
  refine fn_rule Tryd.func40 (by kernel_rfl) (by kernel_rfl) (by kernel_rfl) (by kernel_rfl) ?_
  obtain ⟨c1, h⟩ := h
  rw [h]
  exact sr (ids := []) (vs := [.agg [boo t0.flip, int (t0.quarter % 4)]]) (mem := []) (oand3 Tryd.prog 3 (wi64 c1)) (by kernel_rfl) (by kernel_rfl) (rts_agg (rcs_sc (rcs_sc (rcs_nil rfl))))

-- grade.share
-- polygon.area
-- outline.named
abbrev outline_named_V (s0 : ByteArray) (r0 : Bool) : Prop := (∃ (check1 : Int), Ret Tryd.prog XS 51 [.agg [int 2, boo false, .sl 1 (([] : List Int).map cU32), .sl 1 (([] : List Int).map cU32), str s0, .nil]] (int check1) ∧ r0 = (check1 == 0))
theorem outline_named_W (s0 : ByteArray) (r0 : Bool) (h : outline_named_V s0 r0) : Ret Tryd.prog XS 43 [str s0] (boo r0) := by
  refine fn_rule Tryd.func43 (by kernel_rfl) (by kernel_rfl) (by kernel_rfl) (by kernel_rfl) ?_
  obtain ⟨check1, c1, h⟩ := h
  rw [h]
  exact sr (ids := []) (vs := [boo (check1 == 0)]) (mem := []) (ocl [] [] [.agg [int 2, boo false, .nil, .nil, str s0, .nil]] (as_cons (at_agg (as_cons (ArgTo.same rfl) (as_cons (ArgTo.same rfl) (as_cons (ArgTo.nil _) (as_cons (ArgTo.nil _) (as_cons (ArgTo.same rfl) (as_cons (ArgTo.same rfl) as_nil))))))) as_nil) c1) (by kernel_rfl) (by kernel_rfl) (rts_sc rfl)

-- slices.ContainsFunc[[]api.Edge,api.Edge]
abbrev slices_ContainsFunc_api_Edge_api_Edge_V (s0 : List Edge) (e1 : Edge) (r0 : Bool) : Prop := (∃ (edge1 : Int), Ret Tryd.prog XS 52 [.sl 2 (s0.map cEdge), .fn 45 [] [.ref [str e1.name, .sl 2 (e1.line.map cSpot)]]] (int edge1) ∧ r0 = (decide (edge1 ≥ 0)))
theorem slices_ContainsFunc_api_Edge_api_Edge_W (s0 : List Edge) (e1 : Edge) (r0 : Bool) (h : slices_ContainsFunc_api_Edge_api_Edge_V s0 e1 r0) : Ret Tryd.prog XS 44 [.sl 2 (s0.map cEdge), .fn 45 [] [.ref [str e1.name, .sl 2 (e1.line.map cSpot)]]] (boo r0) := by
  refine fn_rule Tryd.func44 (by kernel_rfl) (by kernel_rfl) (by kernel_rfl) (by kernel_rfl) ?_
  obtain ⟨edge1, c1, h⟩ := h
  rw [h]
  exact sr (ids := []) (vs := [boo (decide (edge1 ≥ 0))]) (mem := []) (ocl [] [] [.sl 2 (s0.map cEdge), .fn 45 [] [.ref [str e1.name, .sl 2 (e1.line.map cSpot)]]] (as_cons (ArgTo.same rfl) (as_cons (at_fn as_nil (as_cons (ArgTo.same rfl) as_nil)) as_nil)) c1) (by kernel_rfl) (by kernel_rfl) (rts_sc rfl)

-- outline.edges$1
abbrev outline_edges_1_V (y : Edge) (e1 : Edge) (r0 : Bool) : Prop := r0 = (y.name.toList == e1.name.toList)
theorem outline_edges_1_W (y : Edge) (e1 : Edge) (r0 : Bool) (h : outline_edges_1_V y e1 r0) : Ret Tryd.prog XS 45 [.agg [str y.name, .sl 2 (y.line.map cSpot)], .ref [str e1.name, .sl 2 (e1.line.map cSpot)]] (boo r0) := by
  refine fn_rule Tryd.func45 (by kernel_rfl) (by kernel_rfl) (by kernel_rfl) (by kernel_rfl) ?_
  rw [h]
  exact sr (ids := []) (vs := [boo (y.name.toList == e1.name.toList)]) (mem := []) az (by kernel_rfl) (by kernel_rfl) (rts_sc rfl)

-- polygon.inside
abbrev polygon_inside_V (n : Int) (r0 : Bool) : Prop := ((n ≥ (-1048576) → r0 = (decide (n ≤ 1048576))) ∧ (¬ (n ≥ (-1048576)) → r0 = false))
theorem polygon_inside_W (n : Int) (r0 : Bool) (h : polygon_inside_V n r0) : Ret Tryd.prog XS 46 [int n] (boo r0) := by
  refine fn_rule Tryd.func46 (by kernel_rfl) (by kernel_rfl) (by kernel_rfl) (by kernel_rfl) ?_
  by_cases c1 : n ≥ (-1048576)
  · have h := h.1 c1
    have g_1 := (abt (dec_t c1))
    rw [h]
    exact sr (ids := []) (vs := [boo (decide (n ≤ 1048576))]) (mem := []) (ac g_1 (ac g_1 g_1)) (by kernel_rfl) (by kernel_rfl) (rts_sc rfl)
  · have h := h.2 c1
    have g_2 := (abf (dec_f c1))
    rw [h]
    exact sr (ids := []) (vs := [boo false]) (mem := []) (ac g_2 (ac g_2 g_2)) (by kernel_rfl) (by kernel_rfl) (rts_sc rfl)

end Go.Ab
end
