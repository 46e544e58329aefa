/- A part of the proof. Conditions: those of each theorem. -/
import Derived.Test.YtmdeiagmlabfmaaDoorDTy
import Derived.Test.YtmdeiagmlabfmaaDoorDX
set_option linter.unusedVariables false
set_option linter.unusedSimpArgs false
set_option linter.unusedSectionVars false

namespace Go.Ab
open Go.Proofs
set_option maxRecDepth 100000
set_option linter.unusedVariables false
attribute [local irreducible] todoQ
-- polygon.Check
def polygon_Check_S0 (p : List Spot) (v13 : Int) : AS := ⟨[(0, .sl 2 (p.map cSpot)), (11, .sl 2 (p.map cSpot)), (12, int ((p.length : Nat) : Int)), (13, int v13)], [], 0⟩
abbrev polygon_Check_V (p : List Spot) (r0 : Int) (I0 : Int → Prop) (M0 : Int → Nat) : Prop := ((((p.length : Nat) : Int) > 40 → r0 = 5) ∧ (¬ (((p.length : Nat) : Int) > 40) → ((((p.length : Nat) : Int) < 3 → r0 = 11) ∧ (¬ (((p.length : Nat) : Int) < 3) → I0 0))))
abbrev polygon_Check_V0 (p : List Spot) (r0 : Int) (I0 : Int → Prop) (M0 : Int → Nat) (v13 : Int) : Prop := ((v13 < ((p.length : Nat) : Int) → (Idx v13 p.length) ∧ (∃ (inside1 : Bool), Ret Tryd.prog XS 46 [int ((ai p v13).x)] (boo inside1) ∧ ((inside1 = true → (∃ (inside2 : Bool), Ret Tryd.prog XS 46 [int ((ai p v13).y)] (boo inside2) ∧ ((inside2 = true → (InR (v13 + 1)) ∧ I0 (v13 + 1) ∧ M0 (v13 + 1) < M0 v13) ∧ (inside2 = false → r0 = 3)))) ∧ (inside1 = false → r0 = 3)))) ∧ (¬ (v13 < ((p.length : Nat) : Int)) → (∃ (simple1 : Bool), Ret Tryd.prog XS 47 [.sl 2 (p.map cSpot)] (boo simple1) ∧ ((simple1 = true → r0 = 0) ∧ (simple1 = false → r0 = 11)))))
theorem polygon_Check_W0 (p : List Spot) (r0 : Int) (I0 : Int → Prop) (M0 : Int → Nat) (h0 : ∀ (v13 : Int), I0 v13 → polygon_Check_V0 p r0 I0 M0 v13) : ∀ (x : Int), I0 x → loopQ Tryd.prog XS Tryd.f36 0 (int r0) [] (polygon_Check_S0 p x) := by
  intro x0 hx0
  refine loop_rule (fun (x : Int) => I0 x) (fun (x : Int) => M0 x) (fun (x : Int) => polygon_Check_S0 p x) x0 hx0 ?_
  intro v13 hx
  have h := h0 v13 hx
  clear hx hx0 x0
  by_cases c1 : v13 < ((p.length : Nat) : Int)
  · have h := h.1 c1
    obtain ⟨c2, inside1, c3, h⟩ := h
    have g_1 := (abt (dec_t c1))
    have e_2 := (ac g_1 (ac (oidx cSpot c2) (ocs c3)))
    rcases Bool.eq_false_or_eq_true inside1 with c4 | c4
    · have h := h.1 c4
      obtain ⟨inside2, c5, h⟩ := h
      have g_3 := (abf (not_f c4))
      have e_4 := (ac g_3 (ac g_3 (ac g_3 (ac (ocs c5) (ac g_3 g_3)))))
      rcases Bool.eq_false_or_eq_true inside2 with c6 | c6
      · have h := h.1 c6
        obtain ⟨c7, h⟩ := h
        exact sb (ts := [0, 11, 12, 13]) (ids := []) (d := 0) (s0 := ⟨[(0, .sl 2 (p.map cSpot)), (11, .sl 2 (p.map cSpot)), (12, int ((p.length : Nat) : Int)), (13, int (v13 + 1))], [], 1⟩) (ac e_2 (ac e_4 (ac (abf (not_f c6)) (oadd Tryd.prog 3 (wi64 c7))))) (by kernel_rfl) (by kernel_rfl) rfl (v13 + 1) h.1 h.2 (Weak.anew [] (by rfl) (wt_cons rfl wk_sl (wt_cons rfl wk_sl (wt_cons rfl wk_sc (wt_cons rfl wk_sc wt_nil)))) wm_nil)
      · have h := h.2 c6
        rw [h]
        exact sr (ids := []) (vs := [int 3]) (mem := []) (ac e_2 (ac e_4 (abt (not_t c6)))) (by kernel_rfl) (by kernel_rfl) (rts_sc rfl)
    · have h := h.2 c4
      have g_5 := (abt (not_t c4))
      rw [h]
      exact sr (ids := []) (vs := [int 3]) (mem := []) (ac e_2 (ac g_5 (ac g_5 (ac g_5 (ac g_5 (ac g_5 abtt)))))) (by kernel_rfl) (by kernel_rfl) (rts_sc rfl)
  · have h := h.2 c1
    obtain ⟨simple1, c2, h⟩ := h
    have g_6 := (abf (dec_f c1))
    have e_7 := (ac g_6 (ocs c2))
    rcases Bool.eq_false_or_eq_true simple1 with c3 | c3
    · have h := h.1 c3
      rw [h]
      exact sr (ids := []) (vs := [int 0]) (mem := []) (ac e_7 (abf (not_f c3))) (by kernel_rfl) (by kernel_rfl) (rts_sc rfl)
    · have h := h.2 c3
      rw [h]
      exact sr (ids := []) (vs := [int 11]) (mem := []) (ac e_7 (abt (not_t c3))) (by kernel_rfl) (by kernel_rfl) (rts_sc rfl)
theorem polygon_Check_W (p : List Spot) (r0 : Int) (I0 : Int → Prop) (M0 : Int → Nat) (h : polygon_Check_V p r0 I0 M0) (h0 : ∀ (v13 : Int), I0 v13 → polygon_Check_V0 p r0 I0 M0 v13) : Ret Tryd.prog XS 36 [.sl 2 (p.map cSpot)] (int r0) := by
  refine fn_rule Tryd.func36 (by kernel_rfl) (by kernel_rfl) (by kernel_rfl) (by kernel_rfl) ?_
  have g_8 := (olen cSpot Tryd.prog 24 2 p (by kernel_rfl))
  by_cases c1 : ((p.length : Nat) : Int) > 40
  · have h := h.1 c1
    have g_9 := (abt (dec_t c1))
    rw [h]
    exact sr (ids := []) (vs := [int 5]) (mem := []) (ac g_8 g_9) (by kernel_rfl) (by kernel_rfl) (rts_sc rfl)
  · have h := h.2 c1
    have g_10 := (abf (dec_f c1))
    have e_11 := (ac g_10 g_8)
    by_cases c2 : ((p.length : Nat) : Int) < 3
    · have h := h.1 c2
      rw [h]
      exact sr (ids := []) (vs := [int 11]) (mem := []) (ac g_8 (ac e_11 (abt (dec_t c2)))) (by kernel_rfl) (by kernel_rfl) (rts_sc rfl)
    · have h := h.2 c2
      exact sl (ts := [0, 11, 12, 13]) (ids := []) (d := 0) (s0 := ⟨[(0, .sl 2 (p.map cSpot)), (11, .sl 2 (p.map cSpot)), (12, int ((p.length : Nat) : Int)), (13, int 0)], [], 0⟩) (ac g_8 (ac e_11 (ac (abf (dec_f c2)) g_8))) (by kernel_rfl) (by kernel_rfl) (Weak.anew [] (by rfl) (wt_cons rfl wk_sl (wt_cons rfl wk_sl (wt_cons rfl wk_sc (wt_cons rfl wk_sc wt_nil)))) wm_nil) (polygon_Check_W0 p r0 I0 M0 h0 0 h)

-- outline.vertices
def outline_vertices_S0 (l : List Edge) (out3 : List Spot) (v8 : Int) : AS := ⟨[(3, .own 0 0 out3.length), (6, .sl 2 (l.map cEdge)), (7, int ((l.length : Nat) : Int)), (8, int v8)], [(0, .row 2 (out3.map cSpot))], 1⟩
abbrev outline_vertices_V (l : List Edge) (r0 : List Spot) (I0 : (List Spot) → Int → Prop) (M0 : (List Spot) → Int → Nat) : Prop := I0 ([] : List Spot) 0
abbrev outline_vertices_V0 (l : List Edge) (r0 : List Spot) (I0 : (List Spot) → Int → Prop) (M0 : (List Spot) → Int → Nat) (out3 : List Spot) (v8 : Int) : Prop := ((v8 < ((l.length : Nat) : Int) → (Idx v8 l.length) ∧ (InR (((((ai l v8).line).length : Nat) : Int) - 1)) ∧ (Slc 0 (((((ai l v8).line).length : Nat) : Int) - 1) ((ai l v8).line).length) ∧ (Cap 16 (out3 ++ (cut ((ai l v8).line) 0 (((((ai l v8).line).length : Nat) : Int) - 1))).length) ∧ (InR (v8 + 1)) ∧ I0 (out3 ++ (cut ((ai l v8).line) 0 (((((ai l v8).line).length : Nat) : Int) - 1))) (v8 + 1) ∧ M0 (out3 ++ (cut ((ai l v8).line) 0 (((((ai l v8).line).length : Nat) : Int) - 1))) (v8 + 1) < M0 out3 v8) ∧ (¬ (v8 < ((l.length : Nat) : Int)) → r0 = out3))
theorem outline_vertices_W0 (l : List Edge) (r0 : List Spot) (I0 : (List Spot) → Int → Prop) (M0 : (List Spot) → Int → Nat) (h0 : ∀ (out3 : List Spot) (v8 : Int), I0 out3 v8 → outline_vertices_V0 l r0 I0 M0 out3 v8) : ∀ (x : (List Spot) × Int), I0 x.1 x.2 → loopQ Tryd.prog XS Tryd.f37 0 (.fr 2 (r0.map cSpot)) [] (outline_vertices_S0 l x.1 x.2) := by
  intro x0 hx0
  refine loop_rule (fun (x : (List Spot) × Int) => I0 x.1 x.2) (fun (x : (List Spot) × Int) => M0 x.1 x.2) (fun (x : (List Spot) × Int) => outline_vertices_S0 l x.1 x.2) x0 hx0 ?_
  rintro ⟨out3, v8⟩ hx
  have h := h0 out3 v8 hx
  clear hx hx0 x0
  by_cases c1 : v8 < ((l.length : Nat) : Int)
  · have h := h.1 c1
    obtain ⟨c2, c3, c4, c5, c6, h⟩ := h
    exact sb (ts := [3, 6, 7, 8]) (ids := [2]) (d := 0) (s0 := ⟨[(3, .own 2 0 ((out3 ++ (cut ((ai l v8).line) 0 (((((ai l v8).line).length : Nat) : Int) - 1))).length)), (6, .sl 2 (l.map cEdge)), (7, int ((l.length : Nat) : Int)), (8, int (v8 + 1))], [(2, .row 2 ((out3 ++ (cut ((ai l v8).line) 0 (((((ai l v8).line).length : Nat) : Int) - 1))).map cSpot))], 3⟩) (ac (abt (dec_t c1)) (ac (oidx cEdge c2) (ac (olen cSpot Tryd.prog 24 2 ((ai l v8).line) (by kernel_rfl)) (ac (osub Tryd.prog 3 (wi64 c3)) (ac (ocut0 cSpot 2 c4) (ac (oapp cSpot (n := out3.length) rfl c5) (oadd Tryd.prog 3 (wi64 c6)))))))) (by kernel_rfl) (by kernel_rfl) rfl ((out3 ++ (cut ((ai l v8).line) 0 (((((ai l v8).line).length : Nat) : Int) - 1))), (v8 + 1)) h.1 h.2 (Weak.anew [(0, some 2)] (by rfl) (wt_cons rfl (wk_own rfl rfl) (wt_cons rfl wk_sl (wt_cons rfl wk_sc (wt_cons rfl wk_sc wt_nil)))) (wm_row rfl rfl wm_nil))
  · have h := h.2 c1
    rw [h]
    exact sr (ids := [0]) (vs := [.own 0 0 out3.length]) (mem := [(0, .row 2 (out3.map cSpot))]) (abf (dec_f c1)) (by kernel_rfl) (by kernel_rfl) (rts_own rfl rfl rfl rfl)
theorem outline_vertices_W (l : List Edge) (r0 : List Spot) (I0 : (List Spot) → Int → Prop) (M0 : (List Spot) → Int → Nat) (h : outline_vertices_V l r0 I0 M0) (h0 : ∀ (out3 : List Spot) (v8 : Int), I0 out3 v8 → outline_vertices_V0 l r0 I0 M0 out3 v8) : Ret Tryd.prog XS 37 [.sl 2 (l.map cEdge)] (.fr 2 (r0.map cSpot)) := by
  refine fn_rule Tryd.func37 (by kernel_rfl) (by kernel_rfl) (by kernel_rfl) (by kernel_rfl) ?_
  exact sl (ts := [3, 6, 7, 8]) (ids := []) (d := 0) (s0 := ⟨[(3, .nil), (6, .sl 2 (l.map cEdge)), (7, int ((l.length : Nat) : Int)), (8, int 0)], [], 0⟩) (olen cEdge Tryd.prog 22 2 l (by kernel_rfl)) (by kernel_rfl) (by kernel_rfl) (Weak.anew [(0, none)] (by rfl) (wt_cons rfl (wk_nilown rfl) (wt_cons rfl wk_sl (wt_cons rfl wk_sc (wt_cons rfl wk_sc wt_nil)))) (wm_none rfl wm_nil)) (outline_vertices_W0 l r0 I0 M0 h0 (([] : List Spot), 0) h)

-- polyline.Check
def polyline_Check_S0 (l : List Spot) (v16 : Int) : AS := ⟨[(0, .sl 2 (l.map cSpot)), (14, .sl 2 (l.map cSpot)), (15, int ((l.length : Nat) : Int)), (16, int v16)], [], 0⟩
def polyline_Check_S1 (l : List Spot) (i5 : Int) : AS := ⟨[(0, .sl 2 (l.map cSpot)), (5, int i5)], [], 0⟩
abbrev polyline_Check_V (l : List Spot) (r0 : Int) (I0 : Int → Prop) (M0 : Int → Nat) (I1 : Int → Prop) (M1 : Int → Nat) : Prop := ((((l.length : Nat) : Int) > 40 → r0 = 5) ∧ (¬ (((l.length : Nat) : Int) > 40) → ((((l.length : Nat) : Int) < 2 → r0 = 11) ∧ (¬ (((l.length : Nat) : Int) < 2) → I0 0))))
abbrev polyline_Check_V0 (l : List Spot) (r0 : Int) (I0 : Int → Prop) (M0 : Int → Nat) (I1 : Int → Prop) (M1 : Int → Nat) (v16 : Int) : Prop := ((v16 < ((l.length : Nat) : Int) → (Idx v16 l.length) ∧ (∃ (coord1 : Bool), Ret Tryd.prog XS 48 [int ((ai l v16).x)] (boo coord1) ∧ ((coord1 = true → (∃ (coord2 : Bool), Ret Tryd.prog XS 48 [int ((ai l v16).y)] (boo coord2) ∧ ((coord2 = true → (InR (v16 + 1)) ∧ I0 (v16 + 1) ∧ M0 (v16 + 1) < M0 v16) ∧ (coord2 = false → r0 = 3)))) ∧ (coord1 = false → r0 = 3)))) ∧ (¬ (v16 < ((l.length : Nat) : Int)) → I1 1))
abbrev polyline_Check_V1 (l : List Spot) (r0 : Int) (I0 : Int → Prop) (M0 : Int → Nat) (I1 : Int → Prop) (M1 : Int → Nat) (i5 : Int) : Prop := ((i5 < ((l.length : Nat) : Int) → (Idx i5 l.length) ∧ (InR (i5 - 1)) ∧ (Idx (i5 - 1) l.length) ∧ (((ai l i5) = (ai l (i5 - 1)) → r0 = 11) ∧ (¬ ((ai l i5) = (ai l (i5 - 1))) → (InR (i5 + 1)) ∧ I1 (i5 + 1) ∧ M1 (i5 + 1) < M1 i5))) ∧ (¬ (i5 < ((l.length : Nat) : Int)) → r0 = 0))
theorem polyline_Check_W1 (l : List Spot) (r0 : Int) (I0 : Int → Prop) (M0 : Int → Nat) (I1 : Int → Prop) (M1 : Int → Nat) (h0 : ∀ (v16 : Int), I0 v16 → polyline_Check_V0 l r0 I0 M0 I1 M1 v16) (h1 : ∀ (i5 : Int), I1 i5 → polyline_Check_V1 l r0 I0 M0 I1 M1 i5) : ∀ (x : Int), I1 x → loopQ Tryd.prog XS Tryd.f38 1 (int r0) [] (polyline_Check_S1 l x) := by
  intro x0 hx0
  refine loop_rule (fun (x : Int) => I1 x) (fun (x : Int) => M1 x) (fun (x : Int) => polyline_Check_S1 l x) x0 hx0 ?_
  intro i5 hx
  have h := h1 i5 hx
  clear hx hx0 x0
  have g_1 := (olen cSpot Tryd.prog 24 2 l (by kernel_rfl))
  by_cases c1 : i5 < ((l.length : Nat) : Int)
  · have h := h.1 c1
    obtain ⟨c2, c3, c4, h⟩ := h
    have g_2 := (abt (dec_t c1))
    have g_3 := (oidx cSpot c2)
    have e_4 := (ac g_2 (ac g_3 (ac (osub Tryd.prog 3 (wi64 c3)) (oidx cSpot c4))))
    by_cases c5 : (ai l i5) = (ai l (i5 - 1))
    · have h := h.1 c5
      rw [h]
      exact sr (ids := []) (vs := [int 11]) (mem := []) (ac g_1 (ac e_4 (abt (sSpot_t c5)))) (by kernel_rfl) (by kernel_rfl) (rts_sc rfl)
    · have h := h.2 c5
      obtain ⟨c6, h⟩ := h
      exact sb (ts := [0, 5]) (ids := []) (d := 0) (s0 := ⟨[(0, .sl 2 (l.map cSpot)), (5, int (i5 + 1))], [], 0⟩) (ac g_1 (ac e_4 (ac (abf (sSpot_f c5)) (oadd Tryd.prog 3 (wi64 c6))))) (by kernel_rfl) (by kernel_rfl) rfl (i5 + 1) h.1 h.2 (Weak.anew [] (by rfl) (wt_cons rfl wk_sl (wt_cons rfl wk_sc wt_nil)) wm_nil)
  · have h := h.2 c1
    have g_5 := (abf (dec_f c1))
    rw [h]
    exact sr (ids := []) (vs := [int 0]) (mem := []) (ac g_1 g_5) (by kernel_rfl) (by kernel_rfl) (rts_sc rfl)
theorem polyline_Check_W0 (l : List Spot) (r0 : Int) (I0 : Int → Prop) (M0 : Int → Nat) (I1 : Int → Prop) (M1 : Int → Nat) (h0 : ∀ (v16 : Int), I0 v16 → polyline_Check_V0 l r0 I0 M0 I1 M1 v16) (h1 : ∀ (i5 : Int), I1 i5 → polyline_Check_V1 l r0 I0 M0 I1 M1 i5) : ∀ (x : Int), I0 x → loopQ Tryd.prog XS Tryd.f38 0 (int r0) [] (polyline_Check_S0 l x) := by
  intro x0 hx0
  refine loop_rule (fun (x : Int) => I0 x) (fun (x : Int) => M0 x) (fun (x : Int) => polyline_Check_S0 l x) x0 hx0 ?_
  intro v16 hx
  have h := h0 v16 hx
  clear hx hx0 x0
  by_cases c1 : v16 < ((l.length : Nat) : Int)
  · have h := h.1 c1
    obtain ⟨c2, coord1, c3, h⟩ := h
    have g_6 := (abt (dec_t c1))
    have g_7 := (oidx cSpot c2)
    have e_8 := (ac g_6 (ac g_7 (ocs c3)))
    rcases Bool.eq_false_or_eq_true coord1 with c4 | c4
    · have h := h.1 c4
      obtain ⟨coord2, c5, h⟩ := h
      have g_9 := (abf (not_f c4))
      have e_10 := (ac g_9 (ac g_9 (ac g_9 (ac (ocs c5) (ac g_9 g_9)))))
      rcases Bool.eq_false_or_eq_true coord2 with c6 | c6
      · have h := h.1 c6
        obtain ⟨c7, h⟩ := h
        exact sb (ts := [0, 14, 15, 16]) (ids := []) (d := 0) (s0 := ⟨[(0, .sl 2 (l.map cSpot)), (14, .sl 2 (l.map cSpot)), (15, int ((l.length : Nat) : Int)), (16, int (v16 + 1))], [], 1⟩) (ac e_8 (ac e_10 (ac (abf (not_f c6)) (oadd Tryd.prog 3 (wi64 c7))))) (by kernel_rfl) (by kernel_rfl) rfl (v16 + 1) h.1 h.2 (Weak.anew [] (by rfl) (wt_cons rfl wk_sl (wt_cons rfl wk_sl (wt_cons rfl wk_sc (wt_cons rfl wk_sc wt_nil)))) wm_nil)
      · have h := h.2 c6
        rw [h]
        exact sr (ids := []) (vs := [int 3]) (mem := []) (ac e_8 (ac e_10 (abt (not_t c6)))) (by kernel_rfl) (by kernel_rfl) (rts_sc rfl)
    · have h := h.2 c4
      have g_11 := (abt (not_t c4))
      rw [h]
      exact sr (ids := []) (vs := [int 3]) (mem := []) (ac e_8 (ac g_11 (ac g_11 (ac g_11 (ac g_11 (ac g_11 abtt)))))) (by kernel_rfl) (by kernel_rfl) (rts_sc rfl)
  · have h := h.2 c1
    have g_12 := (abf (dec_f c1))
    exact sl (ts := [0, 5]) (ids := []) (d := 1) (s0 := ⟨[(0, .sl 2 (l.map cSpot)), (5, int 1)], [], 0⟩) g_12 (by kernel_rfl) (by kernel_rfl) (Weak.anew [] (by rfl) (wt_cons rfl wk_sl (wt_cons rfl wk_sc wt_nil)) wm_nil) (polyline_Check_W1 l r0 I0 M0 I1 M1 h0 h1 1 h)
theorem polyline_Check_W (l : List Spot) (r0 : Int) (I0 : Int → Prop) (M0 : Int → Nat) (I1 : Int → Prop) (M1 : Int → Nat) (h : polyline_Check_V l r0 I0 M0 I1 M1) (h0 : ∀ (v16 : Int), I0 v16 → polyline_Check_V0 l r0 I0 M0 I1 M1 v16) (h1 : ∀ (i5 : Int), I1 i5 → polyline_Check_V1 l r0 I0 M0 I1 M1 i5) : Ret Tryd.prog XS 38 [.sl 2 (l.map cSpot)] (int r0) := by
  refine fn_rule Tryd.func38 (by kernel_rfl) (by kernel_rfl) (by kernel_rfl) (by kernel_rfl) ?_
  have g_13 := (olen cSpot Tryd.prog 24 2 l (by kernel_rfl))
  by_cases c1 : ((l.length : Nat) : Int) > 40
  · have h := h.1 c1
    have g_14 := (abt (dec_t c1))
    rw [h]
    exact sr (ids := []) (vs := [int 5]) (mem := []) (ac g_13 g_14) (by kernel_rfl) (by kernel_rfl) (rts_sc rfl)
  · have h := h.2 c1
    have g_15 := (abf (dec_f c1))
    have e_16 := (ac g_15 g_13)
    by_cases c2 : ((l.length : Nat) : Int) < 2
    · have h := h.1 c2
      rw [h]
      exact sr (ids := []) (vs := [int 11]) (mem := []) (ac g_13 (ac e_16 (abt (dec_t c2)))) (by kernel_rfl) (by kernel_rfl) (rts_sc rfl)
    · have h := h.2 c2
      exact sl (ts := [0, 14, 15, 16]) (ids := []) (d := 0) (s0 := ⟨[(0, .sl 2 (l.map cSpot)), (14, .sl 2 (l.map cSpot)), (15, int ((l.length : Nat) : Int)), (16, int 0)], [], 0⟩) (ac g_13 (ac e_16 (ac (abf (dec_f c2)) g_13))) (by kernel_rfl) (by kernel_rfl) (Weak.anew [] (by rfl) (wt_cons rfl wk_sl (wt_cons rfl wk_sl (wt_cons rfl wk_sc (wt_cons rfl wk_sc wt_nil)))) wm_nil) (polyline_Check_W0 l r0 I0 M0 I1 M1 h0 h1 0 h)

-- polyline.segment
abbrev polyline_segment_V (p : Spot) (q : Spot) (r0 : Int) : Prop := (InR (q.x - p.x)) ∧ (InR (q.y - p.y)) ∧ (InR ((q.x - p.x) * (q.x - p.x))) ∧ (InR ((q.y - p.y) * (q.y - p.y))) ∧ (InR (((q.x - p.x) * (q.x - p.x)) + ((q.y - p.y) * (q.y - p.y)))) ∧ (InR (1000000 * (((q.x - p.x) * (q.x - p.x)) + ((q.y - p.y) * (q.y - p.y))))) ∧ (∃ (root1 : Int), Ret Tryd.prog XS 49 [int (1000000 * (((q.x - p.x) * (q.x - p.x)) + ((q.y - p.y) * (q.y - p.y))))] (int root1) ∧ r0 = root1)
theorem polyline_segment_W (p : Spot) (q : Spot) (r0 : Int) (h : polyline_segment_V p q r0) : Ret Tryd.prog XS 39 [.agg [int p.x, int p.y], .agg [int q.x, int q.y]] (int r0) := by
  refine fn_rule Tryd.func39 (by kernel_rfl) (by kernel_rfl) (by kernel_rfl) (by kernel_rfl) ?_
  obtain ⟨c1, c2, c3, c4, c5, c6, root1, c7, h⟩ := h
  rw [h]
  exact sr (ids := []) (vs := [int root1]) (mem := []) (ac (osub Tryd.prog 3 (wi64 c1)) (ac (osub Tryd.prog 3 (wi64 c2)) (ac (omul Tryd.prog 3 (wi64 c3)) (ac (omul Tryd.prog 3 (wi64 c4)) (ac (oadd Tryd.prog 3 (wi64 c5)) (ac (omul Tryd.prog 3 (wi64 c6)) (ocs c7))))))) (by kernel_rfl) (by kernel_rfl) (rts_sc rfl)

-- turn.Norm
-- grade.share
abbrev grade_share_V (n : Int) (s1 : Int) (r0 : Int) : Prop := ((n < 0 → (InR (-n)) ∧ (∃ (share1 : Int), Ret Tryd.prog XS 41 [int (-n), int s1] (int share1) ∧ (InR (-share1)) ∧ r0 = (-share1))) ∧ (¬ (n < 0) → (InR (2 * n)) ∧ (InR ((2 * n) + s1)) ∧ (InR (2 * s1)) ∧ ((2 * s1) ≠ 0) ∧ (InR (((2 * n) + s1).tdiv (2 * s1))) ∧ r0 = (((2 * n) + s1).tdiv (2 * s1))))
theorem grade_share_W (n : Int) (s1 : Int) (r0 : Int) (h : grade_share_V n s1 r0) : Ret Tryd.prog XS 41 [int n, int s1] (int r0) := by
  refine fn_rule Tryd.func41 (by kernel_rfl) (by kernel_rfl) (by kernel_rfl) (by kernel_rfl) ?_
  by_cases c1 : n < 0
  · have h := h.1 c1
    obtain ⟨c2, share1, c3, c4, h⟩ := h
    rw [h]
    exact sr (ids := []) (vs := [int (-share1)]) (mem := []) (ac (abt (dec_t c1)) (ac (oneg (wi64 c2)) (ac (ocs c3) (oneg (wi64 c4))))) (by kernel_rfl) (by kernel_rfl) (rts_sc rfl)
  · have h := h.2 c1
    obtain ⟨c2, c3, c4, c5, c6, h⟩ := h
    rw [h]
    exact sr (ids := []) (vs := [int (((2 * n) + s1).tdiv (2 * s1))]) (mem := []) (ac (abf (dec_f c1)) (ac (omul Tryd.prog 3 (wi64 c2)) (ac (oadd Tryd.prog 3 (wi64 c3)) (ac (omul Tryd.prog 3 (wi64 c4)) (oquo Tryd.prog 3 c5 (wi64 c6)))))) (by kernel_rfl) (by kernel_rfl) (rts_sc rfl)

-- polygon.area
-- outline.named
abbrev outline_named_V (s0 : ByteArray) (r0 : Bool) : Prop := (∃ (check1 : Int), Ret Tryd.prog XS 51 [.agg [int 2, boo false, .sl 1 (([] : List Int).map cU32), .sl 1 (([] : List Int).map cU32), str s0, .nil]] (int check1) ∧ r0 = (check1 == 0))
theorem outline_named_W (s0 : ByteArray) (r0 : Bool) (h : outline_named_V s0 r0) : Ret Tryd.prog XS 43 [str s0] (boo r0) := by
  refine fn_rule Tryd.func43 (by kernel_rfl) (by kernel_rfl) (by kernel_rfl) (by kernel_rfl) ?_
  obtain ⟨check1, c1, h⟩ := h
  rw [h]
  exact sr (ids := []) (vs := [boo (check1 == 0)]) (mem := []) (ocl [] [] [.agg [int 2, boo false, .nil, .nil, str s0, .nil]] (as_cons (at_agg (as_cons (ArgTo.same rfl) (as_cons (ArgTo.same rfl) (as_cons (ArgTo.nil _) (as_cons (ArgTo.nil _) (as_cons (ArgTo.same rfl) (as_cons (ArgTo.same rfl) as_nil))))))) as_nil) c1) (by kernel_rfl) (by kernel_rfl) (rts_sc rfl)

-- slices.ContainsFunc[[]api.Edge,api.Edge]
abbrev slices_ContainsFunc_api_Edge_api_Edge_V (s0 : List Edge) (e1 : Edge) (r0 : Bool) : Prop := (∃ (edge1 : Int), Ret Tryd.prog XS 52 [.sl 2 (s0.map cEdge), .fn 45 [] [.ref [str e1.name, .sl 2 (e1.line.map cSpot)]]] (int edge1) ∧ r0 = (decide (edge1 ≥ 0)))
theorem slices_ContainsFunc_api_Edge_api_Edge_W (s0 : List Edge) (e1 : Edge) (r0 : Bool) (h : slices_ContainsFunc_api_Edge_api_Edge_V s0 e1 r0) : Ret Tryd.prog XS 44 [.sl 2 (s0.map cEdge), .fn 45 [] [.ref [str e1.name, .sl 2 (e1.line.map cSpot)]]] (boo r0) := by
  refine fn_rule Tryd.func44 (by kernel_rfl) (by kernel_rfl) (by kernel_rfl) (by kernel_rfl) ?_
  obtain ⟨edge1, c1, h⟩ := h
  rw [h]
  exact sr (ids := []) (vs := [boo (decide (edge1 ≥ 0))]) (mem := []) (ocl [] [] [.sl 2 (s0.map cEdge), .fn 45 [] [.ref [str e1.name, .sl 2 (e1.line.map cSpot)]]] (as_cons (ArgTo.same rfl) (as_cons (at_fn as_nil (as_cons (ArgTo.same rfl) as_nil)) as_nil)) c1) (by kernel_rfl) (by kernel_rfl) (rts_sc rfl)

-- outline.edges$1
abbrev outline_edges_1_V (y : Edge) (e1 : Edge) (r0 : Bool) : Prop := r0 = (y.name.toList == e1.name.toList)
theorem outline_edges_1_W (y : Edge) (e1 : Edge) (r0 : Bool) (h : outline_edges_1_V y e1 r0) : Ret Tryd.prog XS 45 [.agg [str y.name, .sl 2 (y.line.map cSpot)], .ref [str e1.name, .sl 2 (e1.line.map cSpot)]] (boo r0) := by
  refine fn_rule Tryd.func45 (by kernel_rfl) (by kernel_rfl) (by kernel_rfl) (by kernel_rfl) ?_
  rw [h]
  exact sr (ids := []) (vs := [boo (y.name.toList == e1.name.toList)]) (mem := []) az (by kernel_rfl) (by kernel_rfl) (rts_sc rfl)

-- polygon.inside
abbrev polygon_inside_V (n : Int) (r0 : Bool) : Prop := ((n ≥ (-1048576) → r0 = (decide (n ≤ 1048576))) ∧ (¬ (n ≥ (-1048576)) → r0 = false))
theorem polygon_inside_W (n : Int) (r0 : Bool) (h : polygon_inside_V n r0) : Ret Tryd.prog XS 46 [int n] (boo r0) := by
  refine fn_rule Tryd.func46 (by kernel_rfl) (by kernel_rfl) (by kernel_rfl) (by kernel_rfl) ?_
  by_cases c1 : n ≥ (-1048576)
  · have h := h.1 c1
    have g_1 := (abt (dec_t c1))
    rw [h]
    exact sr (ids := []) (vs := [boo (decide (n ≤ 1048576))]) (mem := []) (ac g_1 (ac g_1 g_1)) (by kernel_rfl) (by kernel_rfl) (rts_sc rfl)
  · have h := h.2 c1
    have g_2 := (abf (dec_f c1))
    rw [h]
    exact sr (ids := []) (vs := [boo false]) (mem := []) (ac g_2 (ac g_2 g_2)) (by kernel_rfl) (by kernel_rfl) (rts_sc rfl)

end Go.Ab
