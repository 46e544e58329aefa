/- A part of the proof. Conditions: those of each theorem. -/
import Derived.Test.YtmdeiagmlabfmaaGreatDoorZTy
import Derived.Test.YtmdeiagmlabfmaaGreatDoorZX
set_option linter.unusedVariables false
set_option linter.unusedSimpArgs false
set_option linter.unusedSectionVars false

section
namespace Go.Ab
open Go.Proofs
set_option maxRecDepth 100000
set_option linter.unusedVariables false
attribute [local irreducible] todoQ
-- slices.IndexFunc[[]api.Edge,api.Edge]
def slices_IndexFunc_api_Edge_api_Edge_S0 (s0 : List Edge) (e1 : Edge) (v8 : Int) : AS := ⟨[(0, .sl 2 (s0.map cEdge)), (1, .fn 48 [] [.ref [str e1.name, .sl 2 (e1.line.map cSpot)]]), (7, int ((s0.length : Nat) : Int)), (8, int v8)], [], 0⟩
abbrev slices_IndexFunc_api_Edge_api_Edge_V (s0 : List Edge) (e1 : Edge) (r0 : Int) (I0 : Int → Prop) (M0 : Int → Nat) : Prop := I0 0
abbrev slices_IndexFunc_api_Edge_api_Edge_V0 (s0 : List Edge) (e1 : Edge) (r0 : Int) (I0 : Int → Prop) (M0 : Int → Nat) (v8 : Int) : Prop := ((v8 < ((s0.length : Nat) : Int) → (Idx v8 s0.length) ∧ (∃ (edges11 : Bool), Ret Tryz.prog XS 48 [.agg [str ((ai s0 v8).name), .sl 2 (((ai s0 v8).line).map cSpot)], .ref [str e1.name, .sl 2 (e1.line.map cSpot)]] (boo edges11) ∧ ((edges11 = true → r0 = v8) ∧ (edges11 = false → (InR (v8 + 1)) ∧ I0 (v8 + 1) ∧ M0 (v8 + 1) < M0 v8)))) ∧ (¬ (v8 < ((s0.length : Nat) : Int)) → r0 = (-1)))
theorem slices_IndexFunc_api_Edge_api_Edge_W0 (s0 : List Edge) (e1 : Edge) (r0 : Int) (I0 : Int → Prop) (M0 : Int → Nat) (h0 : ∀ (v8 : Int), I0 v8 → slices_IndexFunc_api_Edge_api_Edge_V0 s0 e1 r0 I0 M0 v8) : ∀ (x : Int), I0 x → loopQ Tryz.prog XS Tryz.f59 0 (int r0) [] (slices_IndexFunc_api_Edge_api_Edge_S0 s0 e1 x) := by
  intro x0 hx0
  refine loop_rule (fun (x : Int) => I0 x) (fun (x : Int) => M0 x) (fun (x : Int) => slices_IndexFunc_api_Edge_api_Edge_S0 s0 e1 x) x0 hx0 ?_
  intro v8 hx
  have h := h0 v8 hx
  clear hx hx0 x0
  by_cases c1 : v8 < ((s0.length : Nat) : Int)
  · have h := h.1 c1
    obtain ⟨c2, edges11, c3, h⟩ := h
    have e_1 := (ac (abt (dec_t c1)) (ac (oidx cEdge c2) (ocs c3)))
    rcases Bool.eq_false_or_eq_true edges11 with c4 | c4
    · have h := h.1 c4
      rw [h]
      exact sr (ids := []) (vs := [int v8]) (mem := []) (ac e_1 (abt c4)) (by kernel_rfl) (by kernel_rfl) (rts_sc rfl)
    · have h := h.2 c4
      obtain ⟨c5, h⟩ := h
      exact sb (ts := [0, 1, 7, 8]) (ids := []) (d := 0) (s0 := ⟨[(0, .sl 2 (s0.map cEdge)), (1, .fn 48 [] [.ref [str e1.name, .sl 2 (e1.line.map cSpot)]]), (7, int ((s0.length : Nat) : Int)), (8, int (v8 + 1))], [], 0⟩) (ac e_1 (ac (abf c4) (oadd Tryz.prog 3 (wi64 c5)))) (by kernel_rfl) (by kernel_rfl) rfl (v8 + 1) h.1 h.2 (Weak.anew [] (by rfl) (wt_cons rfl wk_sl (wt_cons rfl (wk_fn wl_nil (wl_cons wk_ref wl_nil)) (wt_cons rfl wk_sc (wt_cons rfl wk_sc wt_nil)))) wm_nil)
  · have h := h.2 c1
    rw [h]
    exact sr (ids := []) (vs := [int (-1)]) (mem := []) (abf (dec_f c1)) (by kernel_rfl) (by kernel_rfl) (rts_sc rfl)
theorem slices_IndexFunc_api_Edge_api_Edge_W (s0 : List Edge) (e1 : Edge) (r0 : Int) (I0 : Int → Prop) (M0 : Int → Nat) (h : slices_IndexFunc_api_Edge_api_Edge_V s0 e1 r0 I0 M0) (h0 : ∀ (v8 : Int), I0 v8 → slices_IndexFunc_api_Edge_api_Edge_V0 s0 e1 r0 I0 M0 v8) : Ret Tryz.prog XS 59 [.sl 2 (s0.map cEdge), .fn 48 [] [.ref [str e1.name, .sl 2 (e1.line.map cSpot)]]] (int r0) := by
  refine fn_rule Tryz.func59 (by kernel_rfl) (by kernel_rfl) (by kernel_rfl) (by kernel_rfl) ?_
  exact sl (ts := [0, 1, 7, 8]) (ids := []) (d := 0) (s0 := ⟨[(0, .sl 2 (s0.map cEdge)), (1, .fn 48 [] [.ref [str e1.name, .sl 2 (e1.line.map cSpot)]]), (7, int ((s0.length : Nat) : Int)), (8, int 0)], [], 0⟩) (olen cEdge Tryz.prog 22 2 s0 (by kernel_rfl)) (by kernel_rfl) (by kernel_rfl) (Weak.anew [] (by rfl) (wt_cons rfl wk_sl (wt_cons rfl (wk_fn wl_nil (wl_cons wk_ref wl_nil)) (wt_cons rfl wk_sc (wt_cons rfl wk_sc wt_nil)))) wm_nil) (slices_IndexFunc_api_Edge_api_Edge_W0 s0 e1 r0 I0 M0 h0 0 h)

-- polyline.Check
def polyline_Check_S0 (l : List Spot) (v16 : Int) : AS := ⟨[(0, .sl 2 (l.map cSpot)), (14, .sl 2 (l.map cSpot)), (15, int ((l.length : Nat) : Int)), (16, int v16)], [], 0⟩
def polyline_Check_S1 (l : List Spot) (i5 : Int) : AS := ⟨[(0, .sl 2 (l.map cSpot)), (5, int i5)], [], 0⟩
abbrev polyline_Check_V (l : List Spot) (r0 : Int) (I0 : Int → Prop) (M0 : Int → Nat) (I1 : Int → Prop) (M1 : Int → Nat) : Prop := ((((l.length : Nat) : Int) > 40 → r0 = 5) ∧ (¬ (((l.length : Nat) : Int) > 40) → ((((l.length : Nat) : Int) < 2 → r0 = 11) ∧ (¬ (((l.length : Nat) : Int) < 2) → I0 0))))
abbrev polyline_Check_V0 (l : List Spot) (r0 : Int) (I0 : Int → Prop) (M0 : Int → Nat) (I1 : Int → Prop) (M1 : Int → Nat) (v16 : Int) : Prop := ((v16 < ((l.length : Nat) : Int) → (Idx v16 l.length) ∧ (∃ (coord1 : Bool), Ret Tryz.prog XS 60 [int ((ai l v16).x)] (boo coord1) ∧ ((coord1 = true → (∃ (coord2 : Bool), Ret Tryz.prog XS 60 [int ((ai l v16).y)] (boo coord2) ∧ ((coord2 = true → (InR (v16 + 1)) ∧ I0 (v16 + 1) ∧ M0 (v16 + 1) < M0 v16) ∧ (coord2 = false → r0 = 3)))) ∧ (coord1 = false → r0 = 3)))) ∧ (¬ (v16 < ((l.length : Nat) : Int)) → I1 1))
abbrev polyline_Check_V1 (l : List Spot) (r0 : Int) (I0 : Int → Prop) (M0 : Int → Nat) (I1 : Int → Prop) (M1 : Int → Nat) (i5 : Int) : Prop := ((i5 < ((l.length : Nat) : Int) → (Idx i5 l.length) ∧ (InR (i5 - 1)) ∧ (Idx (i5 - 1) l.length) ∧ (((ai l i5) = (ai l (i5 - 1)) → r0 = 11) ∧ (¬ ((ai l i5) = (ai l (i5 - 1))) → (InR (i5 + 1)) ∧ I1 (i5 + 1) ∧ M1 (i5 + 1) < M1 i5))) ∧ (¬ (i5 < ((l.length : Nat) : Int)) → r0 = 0))
theorem polyline_Check_W1 (l : List Spot) (r0 : Int) (I0 : Int → Prop) (M0 : Int → Nat) (I1 : Int → Prop) (M1 : Int → Nat) (h0 : ∀ (v16 : Int), I0 v16 → polyline_Check_V0 l r0 I0 M0 I1 M1 v16) (h1 : ∀ (i5 : Int), I1 i5 → polyline_Check_V1 l r0 I0 M0 I1 M1 i5) : ∀ (x : Int), I1 x → loopQ Tryz.prog XS Tryz.f49 1 (int r0) [] (polyline_Check_S1 l x) := by
  intro x0 hx0
  refine loop_rule (fun (x : Int) => I1 x) (fun (x : Int) => M1 x) (fun (x : Int) => polyline_Check_S1 l x) x0 hx0 ?_
  intro i5 hx
  have h := h1 i5 hx
  clear hx hx0 x0
  have g_1 := (olen cSpot Tryz.prog 24 2 l (by kernel_rfl))
  by_cases c1 : i5 < ((l.length : Nat) : Int)
  · have h := h.1 c1
    obtain ⟨c2, c3, c4, h⟩ := h
    have g_2 := (abt (dec_t c1))
    have g_3 := (oidx cSpot c2)
    have e_4 := (ac g_2 (ac g_3 (ac (osub Tryz.prog 3 (wi64 c3)) (oidx cSpot c4))))
    by_cases c5 : (ai l i5) = (ai l (i5 - 1))
    · have h := h.1 c5
      rw [h]
      exact sr (ids := []) (vs := [int 11]) (mem := []) (ac g_1 (ac e_4 (abt (sSpot_t c5)))) (by kernel_rfl) (by kernel_rfl) (rts_sc rfl)
    · have h := h.2 c5
      obtain ⟨c6, h⟩ := h
      exact sb (ts := [0, 5]) (ids := []) (d := 0) (s0 := ⟨[(0, .sl 2 (l.map cSpot)), (5, int (i5 + 1))], [], 0⟩) (ac g_1 (ac e_4 (ac (abf (sSpot_f c5)) (oadd Tryz.prog 3 (wi64 c6))))) (by kernel_rfl) (by kernel_rfl) rfl (i5 + 1) h.1 h.2 (Weak.anew [] (by rfl) (wt_cons rfl wk_sl (wt_cons rfl wk_sc wt_nil)) wm_nil)
  · have h := h.2 c1
    have g_5 := (abf (dec_f c1))
    rw [h]
    exact sr (ids := []) (vs := [int 0]) (mem := []) (ac g_1 g_5) (by kernel_rfl) (by kernel_rfl) (rts_sc rfl)
theorem polyline_Check_W0 (l : List Spot) (r0 : Int) (I0 : Int → Prop) (M0 : Int → Nat) (I1 : Int → Prop) (M1 : Int → Nat) (h0 : ∀ (v16 : Int), I0 v16 → polyline_Check_V0 l r0 I0 M0 I1 M1 v16) (h1 : ∀ (i5 : Int), I1 i5 → polyline_Check_V1 l r0 I0 M0 I1 M1 i5) : ∀ (x : Int), I0 x → loopQ Tryz.prog XS Tryz.f49 0 (int r0) [] (polyline_Check_S0 l x) := by
  intro x0 hx0
  refine loop_rule (fun (x : Int) => I0 x) (fun (x : Int) => M0 x) (fun (x : Int) => polyline_Check_S0 l x) x0 hx0 ?_
  intro v16 hx
  have h := h0 v16 hx
  clear hx hx0 x0
  by_cases c1 : v16 < ((l.length : Nat) : Int)
  · have h := h.1 c1
    obtain ⟨c2, coord1, c3, h⟩ := h
    have g_6 := (abt (dec_t c1))
    have g_7 := (oidx cSpot c2)
    have e_8 := (ac g_6 (ac g_7 (ocs c3)))
    rcases Bool.eq_false_or_eq_true coord1 with c4 | c4
    · have h := h.1 c4
      obtain ⟨coord2, c5, h⟩ := h
      have g_9 := (abf (not_f c4))
      have e_10 := (ac g_9 (ac g_9 (ac g_9 (ac (ocs c5) (ac g_9 g_9)))))
      rcases Bool.eq_false_or_eq_true coord2 with c6 | c6
      · have h := h.1 c6
        obtain ⟨c7, h⟩ := h
        exact sb (ts := [0, 14, 15, 16]) (ids := []) (d := 0) (s0 := ⟨[(0, .sl 2 (l.map cSpot)), (14, .sl 2 (l.map cSpot)), (15, int ((l.length : Nat) : Int)), (16, int (v16 + 1))], [], 1⟩) (ac e_8 (ac e_10 (ac (abf (not_f c6)) (oadd Tryz.prog 3 (wi64 c7))))) (by kernel_rfl) (by kernel_rfl) rfl (v16 + 1) h.1 h.2 (Weak.anew [] (by rfl) (wt_cons rfl wk_sl (wt_cons rfl wk_sl (wt_cons rfl wk_sc (wt_cons rfl wk_sc wt_nil)))) wm_nil)
      · have h := h.2 c6
        rw [h]
        exact sr (ids := []) (vs := [int 3]) (mem := []) (ac e_8 (ac e_10 (abt (not_t c6)))) (by kernel_rfl) (by kernel_rfl) (rts_sc rfl)
    · have h := h.2 c4
      have g_11 := (abt (not_t c4))
      rw [h]
      exact sr (ids := []) (vs := [int 3]) (mem := []) (ac e_8 (ac g_11 (ac g_11 (ac g_11 (ac g_11 (ac g_11 abtt)))))) (by kernel_rfl) (by kernel_rfl) (rts_sc rfl)
  · have h := h.2 c1
    have g_12 := (abf (dec_f c1))
    exact sl (ts := [0, 5]) (ids := []) (d := 1) (s0 := ⟨[(0, .sl 2 (l.map cSpot)), (5, int 1)], [], 0⟩) g_12 (by kernel_rfl) (by kernel_rfl) (Weak.anew [] (by rfl) (wt_cons rfl wk_sl (wt_cons rfl wk_sc wt_nil)) wm_nil) (polyline_Check_W1 l r0 I0 M0 I1 M1 h0 h1 1 h)
theorem polyline_Check_W (l : List Spot) (r0 : Int) (I0 : Int → Prop) (M0 : Int → Nat) (I1 : Int → Prop) (M1 : Int → Nat) (h : polyline_Check_V l r0 I0 M0 I1 M1) (h0 : ∀ (v16 : Int), I0 v16 → polyline_Check_V0 l r0 I0 M0 I1 M1 v16) (h1 : ∀ (i5 : Int), I1 i5 → polyline_Check_V1 l r0 I0 M0 I1 M1 i5) : Ret Tryz.prog XS 49 [.sl 2 (l.map cSpot)] (int r0) := by
  refine fn_rule Tryz.func49 (by kernel_rfl) (by kernel_rfl) (by kernel_rfl) (by kernel_rfl) ?_
  have g_13 := (olen cSpot Tryz.prog 24 2 l (by kernel_rfl))
  by_cases c1 : ((l.length : Nat) : Int) > 40
  · have h := h.1 c1
    have g_14 := (abt (dec_t c1))
    rw [h]
    exact sr (ids := []) (vs := [int 5]) (mem := []) (ac g_13 g_14) (by kernel_rfl) (by kernel_rfl) (rts_sc rfl)
  · have h := h.2 c1
    have g_15 := (abf (dec_f c1))
    have e_16 := (ac g_15 g_13)
    by_cases c2 : ((l.length : Nat) : Int) < 2
    · have h := h.1 c2
      rw [h]
      exact sr (ids := []) (vs := [int 11]) (mem := []) (ac g_13 (ac e_16 (abt (dec_t c2)))) (by kernel_rfl) (by kernel_rfl) (rts_sc rfl)
    · have h := h.2 c2
      exact sl (ts := [0, 14, 15, 16]) (ids := []) (d := 0) (s0 := ⟨[(0, .sl 2 (l.map cSpot)), (14, .sl 2 (l.map cSpot)), (15, int ((l.length : Nat) : Int)), (16, int 0)], [], 0⟩) (ac g_13 (ac e_16 (ac (abf (dec_f c2)) g_13))) (by kernel_rfl) (by kernel_rfl) (Weak.anew [] (by rfl) (wt_cons rfl wk_sl (wt_cons rfl wk_sl (wt_cons rfl wk_sc (wt_cons rfl wk_sc wt_nil)))) wm_nil) (polyline_Check_W0 l r0 I0 M0 I1 M1 h0 h1 0 h)

-- polyline.coord
abbrev polyline_coord_V (n : Int) (r0 : Bool) : Prop := ((n ≥ (-1048576) → r0 = (decide (n ≤ 1048576))) ∧ (¬ (n ≥ (-1048576)) → r0 = false))
theorem polyline_coord_W (n : Int) (r0 : Bool) (h : polyline_coord_V n r0) : Ret Tryz.prog XS 60 [int n] (boo r0) := by
  refine fn_rule Tryz.func60 (by kernel_rfl) (by kernel_rfl) (by kernel_rfl) (by kernel_rfl) ?_
  by_cases c1 : n ≥ (-1048576)
  · have h := h.1 c1
    have g_1 := (abt (dec_t c1))
    rw [h]
    exact sr (ids := []) (vs := [boo (decide (n ≤ 1048576))]) (mem := []) (ac g_1 (ac g_1 g_1)) (by kernel_rfl) (by kernel_rfl) (rts_sc rfl)
  · have h := h.2 c1
    have g_2 := (abf (dec_f c1))
    rw [h]
    exact sr (ids := []) (vs := [boo false]) (mem := []) (ac g_2 (ac g_2 g_2)) (by kernel_rfl) (by kernel_rfl) (rts_sc rfl)

-- outline.vertices
def outline_vertices_S0 (l : List Edge) (out3 : List Spot) (v8 : Int) : AS := ⟨[(3, .own 0 0 out3.length), (6, .sl 2 (l.map cEdge)), (7, int ((l.length : Nat) : Int)), (8, int v8)], [(0, .row 2 (out3.map cSpot))], 1⟩
abbrev outline_vertices_V (l : List Edge) (r0 : List Spot) (I0 : (List Spot) → Int → Prop) (M0 : (List Spot) → Int → Nat) : Prop := I0 ([] : List Spot) 0
abbrev outline_vertices_V0 (l : List Edge) (r0 : List Spot) (I0 : (List Spot) → Int → Prop) (M0 : (List Spot) → Int → Nat) (out3 : List Spot) (v8 : Int) : Prop := ((v8 < ((l.length : Nat) : Int) → (Idx v8 l.length) ∧ (InR (((((ai l v8).line).length : Nat) : Int) - 1)) ∧ (Slc 0 (((((ai l v8).line).length : Nat) : Int) - 1) ((ai l v8).line).length) ∧ (Cap 16 (out3 ++ (cut ((ai l v8).line) 0 (((((ai l v8).line).length : Nat) : Int) - 1))).length) ∧ (InR (v8 + 1)) ∧ I0 (out3 ++ (cut ((ai l v8).line) 0 (((((ai l v8).line).length : Nat) : Int) - 1))) (v8 + 1) ∧ M0 (out3 ++ (cut ((ai l v8).line) 0 (((((ai l v8).line).length : Nat) : Int) - 1))) (v8 + 1) < M0 out3 v8) ∧ (¬ (v8 < ((l.length : Nat) : Int)) → r0 = out3))
theorem outline_vertices_W0 (l : List Edge) (r0 : List Spot) (I0 : (List Spot) → Int → Prop) (M0 : (List Spot) → Int → Nat) (h0 : ∀ (out3 : List Spot) (v8 : Int), I0 out3 v8 → outline_vertices_V0 l r0 I0 M0 out3 v8) : ∀ (x : (List Spot) × Int), I0 x.1 x.2 → loopQ Tryz.prog XS Tryz.f33 0 (.fr 2 (r0.map cSpot)) [] (outline_vertices_S0 l x.1 x.2) := by
  intro x0 hx0
  refine loop_rule (fun (x : (List Spot) × Int) => I0 x.1 x.2) (fun (x : (List Spot) × Int) => M0 x.1 x.2) (fun (x : (List Spot) × Int) => outline_vertices_S0 l x.1 x.2) x0 hx0 ?_
  rintro ⟨out3, v8⟩ hx
  have h := h0 out3 v8 hx
  clear hx hx0 x0
  by_cases c1 : v8 < ((l.length : Nat) : Int)
  · have h := h.1 c1
    obtain ⟨c2, c3, c4, c5, c6, h⟩ := h
    exact sb (ts := [3, 6, 7, 8]) (ids := [2]) (d := 0) (s0 := ⟨[(3, .own 2 0 ((out3 ++ (cut ((ai l v8).line) 0 (((((ai l v8).line).length : Nat) : Int) - 1))).length)), (6, .sl 2 (l.map cEdge)), (7, int ((l.length : Nat) : Int)), (8, int (v8 + 1))], [(2, .row 2 ((out3 ++ (cut ((ai l v8).line) 0 (((((ai l v8).line).length : Nat) : Int) - 1))).map cSpot))], 3⟩) (ac (abt (dec_t c1)) (ac (oidx cEdge c2) (ac (olen cSpot Tryz.prog 24 2 ((ai l v8).line) (by kernel_rfl)) (ac (osub Tryz.prog 3 (wi64 c3)) (ac (ocut0 cSpot 2 c4) (ac (oapp cSpot (n := out3.length) rfl c5) (oadd Tryz.prog 3 (wi64 c6)))))))) (by kernel_rfl) (by kernel_rfl) rfl ((out3 ++ (cut ((ai l v8).line) 0 (((((ai l v8).line).length : Nat) : Int) - 1))), (v8 + 1)) h.1 h.2 (Weak.anew [(0, some 2)] (by rfl) (wt_cons rfl (wk_own rfl rfl) (wt_cons rfl wk_sl (wt_cons rfl wk_sc (wt_cons rfl wk_sc wt_nil)))) (wm_row rfl rfl wm_nil))
  · have h := h.2 c1
    rw [h]
    exact sr (ids := [0]) (vs := [.own 0 0 out3.length]) (mem := [(0, .row 2 (out3.map cSpot))]) (abf (dec_f c1)) (by kernel_rfl) (by kernel_rfl) (rts_own rfl rfl rfl rfl)
theorem outline_vertices_W (l : List Edge) (r0 : List Spot) (I0 : (List Spot) → Int → Prop) (M0 : (List Spot) → Int → Nat) (h : outline_vertices_V l r0 I0 M0) (h0 : ∀ (out3 : List Spot) (v8 : Int), I0 out3 v8 → outline_vertices_V0 l r0 I0 M0 out3 v8) : Ret Tryz.prog XS 33 [.sl 2 (l.map cEdge)] (.fr 2 (r0.map cSpot)) := by
  refine fn_rule Tryz.func33 (by kernel_rfl) (by kernel_rfl) (by kernel_rfl) (by kernel_rfl) ?_
  exact sl (ts := [3, 6, 7, 8]) (ids := []) (d := 0) (s0 := ⟨[(3, .nil), (6, .sl 2 (l.map cEdge)), (7, int ((l.length : Nat) : Int)), (8, int 0)], [], 0⟩) (olen cEdge Tryz.prog 22 2 l (by kernel_rfl)) (by kernel_rfl) (by kernel_rfl) (Weak.anew [(0, none)] (by rfl) (wt_cons rfl (wk_nilown rfl) (wt_cons rfl wk_sl (wt_cons rfl wk_sc (wt_cons rfl wk_sc wt_nil)))) (wm_none rfl wm_nil)) (outline_vertices_W0 l r0 I0 M0 h0 (([] : List Spot), 0) h)

-- polygon.Check
def polygon_Check_S0 (p : List Spot) (v13 : Int) : AS := ⟨[(0, .sl 2 (p.map cSpot)), (11, .sl 2 (p.map cSpot)), (12, int ((p.length : Nat) : Int)), (13, int v13)], [], 0⟩
abbrev polygon_Check_V (p : List Spot) (r0 : Int) (I0 : Int → Prop) (M0 : Int → Nat) : Prop := ((((p.length : Nat) : Int) > 40 → r0 = 5) ∧ (¬ (((p.length : Nat) : Int) > 40) → ((((p.length : Nat) : Int) < 3 → r0 = 11) ∧ (¬ (((p.length : Nat) : Int) < 3) → I0 0))))
abbrev polygon_Check_V0 (p : List Spot) (r0 : Int) (I0 : Int → Prop) (M0 : Int → Nat) (v13 : Int) : Prop := ((v13 < ((p.length : Nat) : Int) → (Idx v13 p.length) ∧ (∃ (inside1 : Bool), Ret Tryz.prog XS 50 [int ((ai p v13).x)] (boo inside1) ∧ ((inside1 = true → (∃ (inside2 : Bool), Ret Tryz.prog XS 50 [int ((ai p v13).y)] (boo inside2) ∧ ((inside2 = true → (InR (v13 + 1)) ∧ I0 (v13 + 1) ∧ M0 (v13 + 1) < M0 v13) ∧ (inside2 = false → r0 = 3)))) ∧ (inside1 = false → r0 = 3)))) ∧ (¬ (v13 < ((p.length : Nat) : Int)) → (∃ (simple1 : Bool), Ret Tryz.prog XS 51 [.sl 2 (p.map cSpot)] (boo simple1) ∧ ((simple1 = true → r0 = 0) ∧ (simple1 = false → r0 = 11)))))
theorem polygon_Check_W0 (p : List Spot) (r0 : Int) (I0 : Int → Prop) (M0 : Int → Nat) (h0 : ∀ (v13 : Int), I0 v13 → polygon_Check_V0 p r0 I0 M0 v13) : ∀ (x : Int), I0 x → loopQ Tryz.prog XS Tryz.f32 0 (int r0) [] (polygon_Check_S0 p x) := by
  intro x0 hx0
  refine loop_rule (fun (x : Int) => I0 x) (fun (x : Int) => M0 x) (fun (x : Int) => polygon_Check_S0 p x) x0 hx0 ?_
  intro v13 hx
  have h := h0 v13 hx
  clear hx hx0 x0
  by_cases c1 : v13 < ((p.length : Nat) : Int)
  · have h := h.1 c1
    obtain ⟨c2, inside1, c3, h⟩ := h
    have g_1 := (abt (dec_t c1))
    have e_2 := (ac g_1 (ac (oidx cSpot c2) (ocs c3)))
    rcases Bool.eq_false_or_eq_true inside1 with c4 | c4
    · have h := h.1 c4
      obtain ⟨inside2, c5, h⟩ := h
      have g_3 := (abf (not_f c4))
      have e_4 := (ac g_3 (ac g_3 (ac g_3 (ac (ocs c5) (ac g_3 g_3)))))
      rcases Bool.eq_false_or_eq_true inside2 with c6 | c6
      · have h := h.1 c6
        obtain ⟨c7, h⟩ := h
        exact sb (ts := [0, 11, 12, 13]) (ids := []) (d := 0) (s0 := ⟨[(0, .sl 2 (p.map cSpot)), (11, .sl 2 (p.map cSpot)), (12, int ((p.length : Nat) : Int)), (13, int (v13 + 1))], [], 1⟩) (ac e_2 (ac e_4 (ac (abf (not_f c6)) (oadd Tryz.prog 3 (wi64 c7))))) (by kernel_rfl) (by kernel_rfl) rfl (v13 + 1) h.1 h.2 (Weak.anew [] (by rfl) (wt_cons rfl wk_sl (wt_cons rfl wk_sl (wt_cons rfl wk_sc (wt_cons rfl wk_sc wt_nil)))) wm_nil)
      · have h := h.2 c6
        rw [h]
        exact sr (ids := []) (vs := [int 3]) (mem := []) (ac e_2 (ac e_4 (abt (not_t c6)))) (by kernel_rfl) (by kernel_rfl) (rts_sc rfl)
    · have h := h.2 c4
      have g_5 := (abt (not_t c4))
      rw [h]
      exact sr (ids := []) (vs := [int 3]) (mem := []) (ac e_2 (ac g_5 (ac g_5 (ac g_5 (ac g_5 (ac g_5 abtt)))))) (by kernel_rfl) (by kernel_rfl) (rts_sc rfl)
  · have h := h.2 c1
    obtain ⟨simple1, c2, h⟩ := h
    have g_6 := (abf (dec_f c1))
    have e_7 := (ac g_6 (ocs c2))
    rcases Bool.eq_false_or_eq_true simple1 with c3 | c3
    · have h := h.1 c3
      rw [h]
      exact sr (ids := []) (vs := [int 0]) (mem := []) (ac e_7 (abf (not_f c3))) (by kernel_rfl) (by kernel_rfl) (rts_sc rfl)
    · have h := h.2 c3
      rw [h]
      exact sr (ids := []) (vs := [int 11]) (mem := []) (ac e_7 (abt (not_t c3))) (by kernel_rfl) (by kernel_rfl) (rts_sc rfl)
theorem polygon_Check_W (p : List Spot) (r0 : Int) (I0 : Int → Prop) (M0 : Int → Nat) (h : polygon_Check_V p r0 I0 M0) (h0 : ∀ (v13 : Int), I0 v13 → polygon_Check_V0 p r0 I0 M0 v13) : Ret Tryz.prog XS 32 [.sl 2 (p.map cSpot)] (int r0) := by
  refine fn_rule Tryz.func32 (by kernel_rfl) (by kernel_rfl) (by kernel_rfl) (by kernel_rfl) ?_
  have g_8 := (olen cSpot Tryz.prog 24 2 p (by kernel_rfl))
  by_cases c1 : ((p.length : Nat) : Int) > 40
  · have h := h.1 c1
    have g_9 := (abt (dec_t c1))
    rw [h]
    exact sr (ids := []) (vs := [int 5]) (mem := []) (ac g_8 g_9) (by kernel_rfl) (by kernel_rfl) (rts_sc rfl)
  · have h := h.2 c1
    have g_10 := (abf (dec_f c1))
    have e_11 := (ac g_10 g_8)
    by_cases c2 : ((p.length : Nat) : Int) < 3
    · have h := h.1 c2
      rw [h]
      exact sr (ids := []) (vs := [int 11]) (mem := []) (ac g_8 (ac e_11 (abt (dec_t c2)))) (by kernel_rfl) (by kernel_rfl) (rts_sc rfl)
    · have h := h.2 c2
      exact sl (ts := [0, 11, 12, 13]) (ids := []) (d := 0) (s0 := ⟨[(0, .sl 2 (p.map cSpot)), (11, .sl 2 (p.map cSpot)), (12, int ((p.length : Nat) : Int)), (13, int 0)], [], 0⟩) (ac g_8 (ac e_11 (ac (abf (dec_f c2)) g_8))) (by kernel_rfl) (by kernel_rfl) (Weak.anew [] (by rfl) (wt_cons rfl wk_sl (wt_cons rfl wk_sl (wt_cons rfl wk_sc (wt_cons rfl wk_sc wt_nil)))) wm_nil) (polygon_Check_W0 p r0 I0 M0 h0 0 h)

-- polygon.inside
abbrev polygon_inside_V (n : Int) (r0 : Bool) : Prop := ((n ≥ (-1048576) → r0 = (decide (n ≤ 1048576))) ∧ (¬ (n ≥ (-1048576)) → r0 = false))
theorem polygon_inside_W (n : Int) (r0 : Bool) (h : polygon_inside_V n r0) : Ret Tryz.prog XS 50 [int n] (boo r0) := by
  refine fn_rule Tryz.func50 (by kernel_rfl) (by kernel_rfl) (by kernel_rfl) (by kernel_rfl) ?_
  by_cases c1 : n ≥ (-1048576)
  · have h := h.1 c1
    have g_1 := (abt (dec_t c1))
    rw [h]
    exact sr (ids := []) (vs := [boo (decide (n ≤ 1048576))]) (mem := []) (ac g_1 (ac g_1 g_1)) (by kernel_rfl) (by kernel_rfl) (rts_sc rfl)
  · have h := h.2 c1
    have g_2 := (abf (dec_f c1))
    rw [h]
    exact sr (ids := []) (vs := [boo false]) (mem := []) (ac g_2 (ac g_2 g_2)) (by kernel_rfl) (by kernel_rfl) (rts_sc rfl)

end Go.Ab
end

section
namespace Go.Ab
open Go.Proofs
set_option maxRecDepth 100000
set_option linter.unusedVariables false
attribute [local irreducible] todoQ
-- polygon.simple
def polygon_simple_S0 (p : List Spot) (sides1 : List PolygonSide) (v12 : Int) : AS := ⟨[(3, .own 0 0 sides1.length), (10, .own 0 0 sides1.length), (11, int ((sides1.length : Nat) : Int)), (12, int v12)], [(0, .row 4 (sides1.map cPolygonSide))], 1⟩
def polygon_simple_S1 (p : List Spot) (sides1 : List PolygonSide) (v12 : Int) (k7 : Int) : AS := ⟨[(3, .own 0 0 sides1.length), (4, int v12), (5, .ptr 1 0 0), (7, int k7), (10, .own 0 0 sides1.length), (11, int ((sides1.length : Nat) : Int)), (12, int v12)], [(0, .row 4 (sides1.map cPolygonSide)), (1, .box [int ((ai sides1 v12).a.x), int ((ai sides1 v12).a.y), int ((ai sides1 v12).b.x), int ((ai sides1 v12).b.y)])], 2⟩
abbrev polygon_simple_V (p : List Spot) (r0 : Bool) (I0 : (List PolygonSide) → Int → Prop) (M0 : (List PolygonSide) → Int → Nat) (I1 : (List PolygonSide) → Int → Int → Prop) (M1 : (List PolygonSide) → Int → Int → Nat) : Prop := (∃ (sides1 : List PolygonSide), Ret Tryz.prog XS 56 [.sl 2 (p.map cSpot)] (.fr 4 (sides1.map cPolygonSide)) ∧ I0 sides1 0)
abbrev polygon_simple_V0 (p : List Spot) (r0 : Bool) (I0 : (List PolygonSide) → Int → Prop) (M0 : (List PolygonSide) → Int → Nat) (I1 : (List PolygonSide) → Int → Int → Prop) (M1 : (List PolygonSide) → Int → Int → Nat) (sides1 : List PolygonSide) (v12 : Int) : Prop := ((v12 < ((sides1.length : Nat) : Int) → (Idx v12 sides1.length) ∧ (((ai sides1 v12).a = (ai sides1 v12).b → r0 = false) ∧ (¬ ((ai sides1 v12).a = (ai sides1 v12).b) → (InR (v12 + 1)) ∧ (((sides1.length : Nat) : Int) ≠ 0) ∧ (Idx ((v12 + 1).tmod ((sides1.length : Nat) : Int)) sides1.length) ∧ (∃ (holds1 : Bool), Ret Tryz.prog XS 61 [.agg [int ((ai sides1 v12).a.x), int ((ai sides1 v12).a.y), int ((ai sides1 v12).b.x), int ((ai sides1 v12).b.y)], .agg [int ((ai sides1 ((v12 + 1).tmod ((sides1.length : Nat) : Int))).b.x), int ((ai sides1 ((v12 + 1).tmod ((sides1.length : Nat) : Int))).b.y)]] (boo holds1) ∧ ((holds1 = true → r0 = false) ∧ (holds1 = false → (∃ (holds2 : Bool), Ret Tryz.prog XS 61 [.agg [int ((ai sides1 ((v12 + 1).tmod ((sides1.length : Nat) : Int))).a.x), int ((ai sides1 ((v12 + 1).tmod ((sides1.length : Nat) : Int))).a.y), int ((ai sides1 ((v12 + 1).tmod ((sides1.length : Nat) : Int))).b.x), int ((ai sides1 ((v12 + 1).tmod ((sides1.length : Nat) : Int))).b.y)], .agg [int ((ai sides1 v12).a.x), int ((ai sides1 v12).a.y)]] (boo holds2) ∧ ((holds2 = true → r0 = false) ∧ (holds2 = false → (InR (v12 + 2)) ∧ I1 sides1 v12 (v12 + 2)))))))))) ∧ (¬ (v12 < ((sides1.length : Nat) : Int)) → r0 = true))
abbrev polygon_simple_V1 (p : List Spot) (r0 : Bool) (I0 : (List PolygonSide) → Int → Prop) (M0 : (List PolygonSide) → Int → Nat) (I1 : (List PolygonSide) → Int → Int → Prop) (M1 : (List PolygonSide) → Int → Int → Nat) (sides1 : List PolygonSide) (v12 : Int) (k7 : Int) : Prop := ((k7 < ((sides1.length : Nat) : Int) → ((v12 = 0 → (InR (((sides1.length : Nat) : Int) - 1)) ∧ ((k7 = (((sides1.length : Nat) : Int) - 1) → (InR (k7 + 1)) ∧ I1 sides1 v12 (k7 + 1) ∧ M1 sides1 v12 (k7 + 1) < M1 sides1 v12 k7) ∧ (¬ (k7 = (((sides1.length : Nat) : Int) - 1)) → (Idx k7 sides1.length) ∧ (∃ (meets1 : Bool), Ret Tryz.prog XS 62 [.agg [int ((ai sides1 v12).a.x), int ((ai sides1 v12).a.y), int ((ai sides1 v12).b.x), int ((ai sides1 v12).b.y)], .agg [int ((ai sides1 k7).a.x), int ((ai sides1 k7).a.y), int ((ai sides1 k7).b.x), int ((ai sides1 k7).b.y)]] (boo meets1) ∧ ((meets1 = true → r0 = false) ∧ (meets1 = false → (InR (k7 + 1)) ∧ I1 sides1 v12 (k7 + 1) ∧ M1 sides1 v12 (k7 + 1) < M1 sides1 v12 k7)))))) ∧ (¬ (v12 = 0) → (Idx k7 sides1.length) ∧ (∃ (meets1 : Bool), Ret Tryz.prog XS 62 [.agg [int ((ai sides1 v12).a.x), int ((ai sides1 v12).a.y), int ((ai sides1 v12).b.x), int ((ai sides1 v12).b.y)], .agg [int ((ai sides1 k7).a.x), int ((ai sides1 k7).a.y), int ((ai sides1 k7).b.x), int ((ai sides1 k7).b.y)]] (boo meets1) ∧ ((meets1 = true → r0 = false) ∧ (meets1 = false → (InR (k7 + 1)) ∧ I1 sides1 v12 (k7 + 1) ∧ M1 sides1 v12 (k7 + 1) < M1 sides1 v12 k7)))))) ∧ (¬ (k7 < ((sides1.length : Nat) : Int)) → (InR (v12 + 1)) ∧ I0 sides1 (v12 + 1) ∧ M0 sides1 (v12 + 1) < M0 sides1 v12))
theorem polygon_simple_W1 (p : List Spot) (r0 : Bool) (I0 : (List PolygonSide) → Int → Prop) (M0 : (List PolygonSide) → Int → Nat) (I1 : (List PolygonSide) → Int → Int → Prop) (M1 : (List PolygonSide) → Int → Int → Nat) (h0 : ∀ (sides1 : List PolygonSide) (v12 : Int), I0 sides1 v12 → polygon_simple_V0 p r0 I0 M0 I1 M1 sides1 v12) (h1 : ∀ (sides1 : List PolygonSide) (v12 : Int) (k7 : Int), I1 sides1 v12 k7 → polygon_simple_V1 p r0 I0 M0 I1 M1 sides1 v12 k7) (sides1 : List PolygonSide) (v12 : Int) : ∀ (x : Int), I1 sides1 v12 x → loopQ Tryz.prog XS Tryz.f51 1 (boo r0) [backI (fun (x : Int) => I0 sides1 x) (fun (x : Int) => M0 sides1 x) (fun (x : Int) => polygon_simple_S0 p sides1 x) v12] (polygon_simple_S1 p sides1 v12 x) := by
  intro x0 hx0
  refine loop_rule (fun (x : Int) => I1 sides1 v12 x) (fun (x : Int) => M1 sides1 v12 x) (fun (x : Int) => polygon_simple_S1 p sides1 v12 x) x0 hx0 ?_
  intro k7 hx
  have h := h1 sides1 v12 k7 hx
  clear hx hx0 x0
  have g_1 := (oleno Tryz.prog 78 0 0 sides1.length sides1.length rfl (by kernel_rfl))
  by_cases c1 : k7 < ((sides1.length : Nat) : Int)
  · have h := h.1 c1
    have g_2 := (abt (dec_t c1))
    by_cases c2 : v12 = 0
    · have h := h.1 c2
      obtain ⟨c3, h⟩ := h
      have g_3 := (abt (beq_t c2))
      have e_4 := (ac g_3 (ac g_3 (ac g_3 (ac g_1 (ac g_3 (ac (osub Tryz.prog 3 (wi64 c3)) (ac g_3 g_3)))))))
      by_cases c4 : k7 = (((sides1.length : Nat) : Int) - 1)
      · have h := h.1 c4
        obtain ⟨c5, h⟩ := h
        exact sb (ts := [3, 4, 5, 7, 10, 11, 12]) (ids := [0, 1]) (d := 0) (s0 := ⟨[(3, .own 0 0 sides1.length), (4, int v12), (5, .ptr 1 0 0), (7, int (k7 + 1)), (10, .own 0 0 sides1.length), (11, int ((sides1.length : Nat) : Int)), (12, int v12)], [(0, .row 4 (sides1.map cPolygonSide)), (1, .box [int ((ai sides1 v12).a.x), int ((ai sides1 v12).a.y), int ((ai sides1 v12).b.x), int ((ai sides1 v12).b.y)])], 2⟩) (ac g_1 (ac g_2 (ac e_4 (ac (abt (beq_t c4)) (oadd Tryz.prog 3 (wi64 c5)))))) (by kernel_rfl) (by kernel_rfl) rfl (k7 + 1) h.1 h.2 (Weak.anew [(0, some 0), (1, some 1)] (by rfl) (wt_cons rfl (wk_own rfl rfl) (wt_cons rfl wk_sc (wt_cons rfl (wk_ptr rfl) (wt_cons rfl wk_sc (wt_cons rfl (wk_own rfl rfl) (wt_cons rfl wk_sc (wt_cons rfl wk_sc wt_nil))))))) (wm_row rfl rfl (wm_box rfl rfl (wl_cons wk_sc (wl_cons wk_sc (wl_cons wk_sc (wl_cons wk_sc wl_nil)))) wm_nil)))
      · have h := h.2 c4
        obtain ⟨c5, meets1, c6, h⟩ := h
        have e_5 := (ac (abf (beq_f c4)) (ac (oown cPolygonSide (n := sides1.length) rfl c5) (ac (orow cPolygonSide c5) (ocs c6))))
        rcases Bool.eq_false_or_eq_true meets1 with c7 | c7
        · have h := h.1 c7
          rw [h]
          exact sr (ids := []) (vs := [boo false]) (mem := []) (ac g_1 (ac g_2 (ac e_4 (ac e_5 (abt c7))))) (by kernel_rfl) (by kernel_rfl) (rts_sc rfl)
        · have h := h.2 c7
          obtain ⟨c8, h⟩ := h
          exact sb (ts := [3, 4, 5, 7, 10, 11, 12]) (ids := [0, 1]) (d := 0) (s0 := ⟨[(3, .own 0 0 sides1.length), (4, int v12), (5, .ptr 1 0 0), (7, int (k7 + 1)), (10, .own 0 0 sides1.length), (11, int ((sides1.length : Nat) : Int)), (12, int v12)], [(0, .row 4 (sides1.map cPolygonSide)), (1, .box [int ((ai sides1 v12).a.x), int ((ai sides1 v12).a.y), int ((ai sides1 v12).b.x), int ((ai sides1 v12).b.y)])], 2⟩) (ac g_1 (ac g_2 (ac e_4 (ac e_5 (ac (abf c7) (oadd Tryz.prog 3 (wi64 c8))))))) (by kernel_rfl) (by kernel_rfl) rfl (k7 + 1) h.1 h.2 (Weak.anew [(0, some 0), (1, some 1)] (by rfl) (wt_cons rfl (wk_own rfl rfl) (wt_cons rfl wk_sc (wt_cons rfl (wk_ptr rfl) (wt_cons rfl wk_sc (wt_cons rfl (wk_own rfl rfl) (wt_cons rfl wk_sc (wt_cons rfl wk_sc wt_nil))))))) (wm_row rfl rfl (wm_box rfl rfl (wl_cons wk_sc (wl_cons wk_sc (wl_cons wk_sc (wl_cons wk_sc wl_nil)))) wm_nil)))
    · have h := h.2 c2
      obtain ⟨c3, meets1, c4, h⟩ := h
      have g_6 := (abf (beq_f c2))
      have e_7 := (ac g_6 (ac g_6 (ac g_6 (ac g_6 (ac g_6 (ac g_6 (ac abff (ac (oown cPolygonSide (n := sides1.length) rfl c3) (ac (orow cPolygonSide c3) (ocs c4))))))))))
      rcases Bool.eq_false_or_eq_true meets1 with c5 | c5
      · have h := h.1 c5
        rw [h]
        exact sr (ids := []) (vs := [boo false]) (mem := []) (ac g_1 (ac g_2 (ac e_7 (abt c5)))) (by kernel_rfl) (by kernel_rfl) (rts_sc rfl)
      · have h := h.2 c5
        obtain ⟨c6, h⟩ := h
        exact sb (ts := [3, 4, 5, 7, 10, 11, 12]) (ids := [0, 1]) (d := 0) (s0 := ⟨[(3, .own 0 0 sides1.length), (4, int v12), (5, .ptr 1 0 0), (7, int (k7 + 1)), (10, .own 0 0 sides1.length), (11, int ((sides1.length : Nat) : Int)), (12, int v12)], [(0, .row 4 (sides1.map cPolygonSide)), (1, .box [int ((ai sides1 v12).a.x), int ((ai sides1 v12).a.y), int ((ai sides1 v12).b.x), int ((ai sides1 v12).b.y)])], 2⟩) (ac g_1 (ac g_2 (ac e_7 (ac (abf c5) (oadd Tryz.prog 3 (wi64 c6)))))) (by kernel_rfl) (by kernel_rfl) rfl (k7 + 1) h.1 h.2 (Weak.anew [(0, some 0), (1, some 1)] (by rfl) (wt_cons rfl (wk_own rfl rfl) (wt_cons rfl wk_sc (wt_cons rfl (wk_ptr rfl) (wt_cons rfl wk_sc (wt_cons rfl (wk_own rfl rfl) (wt_cons rfl wk_sc (wt_cons rfl wk_sc wt_nil))))))) (wm_row rfl rfl (wm_box rfl rfl (wl_cons wk_sc (wl_cons wk_sc (wl_cons wk_sc (wl_cons wk_sc wl_nil)))) wm_nil)))
  · have h := h.2 c1
    obtain ⟨c2, h⟩ := h
    have g_8 := (abf (dec_f c1))
    exact sb (ts := [3, 10, 11, 12]) (ids := [0]) (d := 1) (s0 := ⟨[(3, .own 0 0 sides1.length), (10, .own 0 0 sides1.length), (11, int ((sides1.length : Nat) : Int)), (12, int (v12 + 1))], [(0, .row 4 (sides1.map cPolygonSide))], 2⟩) (ac g_1 (ac g_8 (oadd Tryz.prog 3 (wi64 c2)))) (by kernel_rfl) (by kernel_rfl) rfl (v12 + 1) h.1 h.2 (Weak.anew [(0, some 0)] (by rfl) (wt_cons rfl (wk_own rfl rfl) (wt_cons rfl (wk_own rfl rfl) (wt_cons rfl wk_sc (wt_cons rfl wk_sc wt_nil)))) (wm_row rfl rfl wm_nil))
theorem polygon_simple_W0 (p : List Spot) (r0 : Bool) (I0 : (List PolygonSide) → Int → Prop) (M0 : (List PolygonSide) → Int → Nat) (I1 : (List PolygonSide) → Int → Int → Prop) (M1 : (List PolygonSide) → Int → Int → Nat) (h0 : ∀ (sides1 : List PolygonSide) (v12 : Int), I0 sides1 v12 → polygon_simple_V0 p r0 I0 M0 I1 M1 sides1 v12) (h1 : ∀ (sides1 : List PolygonSide) (v12 : Int) (k7 : Int), I1 sides1 v12 k7 → polygon_simple_V1 p r0 I0 M0 I1 M1 sides1 v12 k7) (sides1 : List PolygonSide) : ∀ (x : Int), I0 sides1 x → loopQ Tryz.prog XS Tryz.f51 0 (boo r0) [] (polygon_simple_S0 p sides1 x) := by
  intro x0 hx0
  refine loop_rule (fun (x : Int) => I0 sides1 x) (fun (x : Int) => M0 sides1 x) (fun (x : Int) => polygon_simple_S0 p sides1 x) x0 hx0 ?_
  intro v12 hx
  have h := h0 sides1 v12 hx
  clear hx hx0 x0
  by_cases c1 : v12 < ((sides1.length : Nat) : Int)
  · have h := h.1 c1
    obtain ⟨c2, h⟩ := h
    have g_9 := (abt (dec_t c1))
    have e_10 := (ac g_9 (ac (oown cPolygonSide (n := sides1.length) rfl c2) (orow cPolygonSide c2)))
    by_cases c3 : (ai sides1 v12).a = (ai sides1 v12).b
    · have h := h.1 c3
      rw [h]
      exact sr (ids := []) (vs := [boo false]) (mem := []) (ac e_10 (abt (sSpot_t c3))) (by kernel_rfl) (by kernel_rfl) (rts_sc rfl)
    · have h := h.2 c3
      obtain ⟨c4, c5, c6, holds1, c7, h⟩ := h
      have g_11 := (oleno Tryz.prog 78 0 0 sides1.length sides1.length rfl (by kernel_rfl))
      have e_12 := (ac (abf (sSpot_f c3)) (ac (oadd Tryz.prog 3 (wi64 c4)) (ac g_11 (ac (orem Tryz.prog 3 .i64 (v12 + 1) ((sides1.length : Nat) : Int) c5) (ac (oown cPolygonSide (n := sides1.length) rfl c6) (ac (orow cPolygonSide c6) (ocs c7)))))))
      rcases Bool.eq_false_or_eq_true holds1 with c8 | c8
      · have h := h.1 c8
        rw [h]
        exact sr (ids := []) (vs := [boo false]) (mem := []) (ac e_10 (ac e_12 (ac (abt c8) (ac (abt c8) (ac (abt c8) (ac (abt c8) (ac (abt c8) abtt))))))) (by kernel_rfl) (by kernel_rfl) (rts_sc rfl)
      · have h := h.2 c8
        obtain ⟨holds2, c9, h⟩ := h
        have e_13 := (ac (abf c8) (ac (abf c8) (ac (abf c8) (ac (abf c8) (ac (ocs c9) (abf c8))))))
        rcases Bool.eq_false_or_eq_true holds2 with c10 | c10
        · have h := h.1 c10
          rw [h]
          exact sr (ids := []) (vs := [boo false]) (mem := []) (ac e_10 (ac e_12 (ac e_13 (abt c10)))) (by kernel_rfl) (by kernel_rfl) (rts_sc rfl)
        · have h := h.2 c10
          obtain ⟨c11, h⟩ := h
          exact sl (ts := [3, 4, 5, 7, 10, 11, 12]) (ids := [0, 1]) (d := 0) (s0 := ⟨[(3, .own 0 0 sides1.length), (4, int v12), (5, .ptr 1 0 0), (7, int (v12 + 2)), (10, .own 0 0 sides1.length), (11, int ((sides1.length : Nat) : Int)), (12, int v12)], [(0, .row 4 (sides1.map cPolygonSide)), (1, .box [int ((ai sides1 v12).a.x), int ((ai sides1 v12).a.y), int ((ai sides1 v12).b.x), int ((ai sides1 v12).b.y)])], 3⟩) (ac e_10 (ac e_12 (ac e_13 (ac (abf c10) (oadd Tryz.prog 3 (wi64 c11)))))) (by kernel_rfl) (by kernel_rfl) (Weak.anew [(0, some 0), (1, some 1)] (by rfl) (wt_cons rfl (wk_own rfl rfl) (wt_cons rfl wk_sc (wt_cons rfl (wk_ptr rfl) (wt_cons rfl wk_sc (wt_cons rfl (wk_own rfl rfl) (wt_cons rfl wk_sc (wt_cons rfl wk_sc wt_nil))))))) (wm_row rfl rfl (wm_box rfl rfl (wl_cons wk_sc (wl_cons wk_sc (wl_cons wk_sc (wl_cons wk_sc wl_nil)))) wm_nil))) (polygon_simple_W1 p r0 I0 M0 I1 M1 h0 h1 sides1 v12 (v12 + 2) h)
  · have h := h.2 c1
    have g_14 := (abf (dec_f c1))
    rw [h]
    exact sr (ids := []) (vs := [boo true]) (mem := []) g_14 (by kernel_rfl) (by kernel_rfl) (rts_sc rfl)
theorem polygon_simple_W (p : List Spot) (r0 : Bool) (I0 : (List PolygonSide) → Int → Prop) (M0 : (List PolygonSide) → Int → Nat) (I1 : (List PolygonSide) → Int → Int → Prop) (M1 : (List PolygonSide) → Int → Int → Nat) (h : polygon_simple_V p r0 I0 M0 I1 M1) (h0 : ∀ (sides1 : List PolygonSide) (v12 : Int), I0 sides1 v12 → polygon_simple_V0 p r0 I0 M0 I1 M1 sides1 v12) (h1 : ∀ (sides1 : List PolygonSide) (v12 : Int) (k7 : Int), I1 sides1 v12 k7 → polygon_simple_V1 p r0 I0 M0 I1 M1 sides1 v12 k7) : Ret Tryz.prog XS 51 [.sl 2 (p.map cSpot)] (boo r0) := by
  refine fn_rule Tryz.func51 (by kernel_rfl) (by kernel_rfl) (by kernel_rfl) (by kernel_rfl) ?_
  obtain ⟨sides1, c1, h⟩ := h
  exact sl (ts := [3, 10, 11, 12]) (ids := [0]) (d := 0) (s0 := ⟨[(3, .own 0 0 ((sides1.map cPolygonSide).length)), (10, .own 0 0 ((sides1.map cPolygonSide).length)), (11, int ((sides1.length : Nat) : Int)), (12, int 0)], [(0, .row 4 (sides1.map cPolygonSide))], 1⟩) (ac (ocs c1) (oleno Tryz.prog 78 0 0 ((sides1.map cPolygonSide).length) sides1.length (List.length_map ..) (by kernel_rfl))) (by kernel_rfl) (by kernel_rfl) (Weak.anew [(0, some 0)] (by rfl) (wt_cons rfl (wk_own rfl (List.length_map ..)) (wt_cons rfl (wk_own rfl (List.length_map ..)) (wt_cons rfl wk_sc (wt_cons rfl wk_sc wt_nil)))) (wm_row rfl rfl wm_nil)) (polygon_simple_W0 p r0 I0 M0 I1 M1 h0 h1 sides1 0 h)

-- polygon.sides
def polygon_sides_S0 (p : List Spot) (v11 : Int) (w3 : List PolygonSide) : AS := ⟨[(0, .sl 2 (p.map cSpot)), (3, .own 0 0 w3.length), (9, .sl 2 (p.map cSpot)), (10, int ((p.length : Nat) : Int)), (11, int v11)], [(0, .row 4 (w3.map cPolygonSide))], 1⟩
abbrev polygon_sides_V (p : List Spot) (r0 : List PolygonSide) (I0 : Int → (List PolygonSide) → Prop) (M0 : Int → (List PolygonSide) → Nat) : Prop := (0 ≤ ((p.length : Nat) : Int)) ∧ (((p.length : Nat) : Int) * 32 ≤ 140737488355328) ∧ (((p.length : Nat) : Int) ≤ 9223372036854775807) ∧ I0 0 (List.replicate (((p.length : Nat) : Int) : Int).toNat (⟨(⟨0, 0⟩ : Spot), (⟨0, 0⟩ : Spot)⟩ : PolygonSide))
abbrev polygon_sides_V0 (p : List Spot) (r0 : List PolygonSide) (I0 : Int → (List PolygonSide) → Prop) (M0 : Int → (List PolygonSide) → Nat) (v11 : Int) (w3 : List PolygonSide) : Prop := ((v11 < ((p.length : Nat) : Int) → (Idx v11 p.length) ∧ (InR (v11 + 1)) ∧ (((p.length : Nat) : Int) ≠ 0) ∧ (Idx ((v11 + 1).tmod ((p.length : Nat) : Int)) p.length) ∧ (Idx v11 w3.length) ∧ I0 (v11 + 1) (w3.set (v11 : Int).toNat (⟨(ai p v11), (ai p ((v11 + 1).tmod ((p.length : Nat) : Int)))⟩ : PolygonSide)) ∧ M0 (v11 + 1) (w3.set (v11 : Int).toNat (⟨(ai p v11), (ai p ((v11 + 1).tmod ((p.length : Nat) : Int)))⟩ : PolygonSide)) < M0 v11 w3) ∧ (¬ (v11 < ((p.length : Nat) : Int)) → r0 = w3))
theorem polygon_sides_W0 (p : List Spot) (r0 : List PolygonSide) (I0 : Int → (List PolygonSide) → Prop) (M0 : Int → (List PolygonSide) → Nat) (h0 : ∀ (v11 : Int) (w3 : List PolygonSide), I0 v11 w3 → polygon_sides_V0 p r0 I0 M0 v11 w3) : ∀ (x : Int × (List PolygonSide)), I0 x.1 x.2 → loopQ Tryz.prog XS Tryz.f56 0 (.fr 4 (r0.map cPolygonSide)) [] (polygon_sides_S0 p x.1 x.2) := by
  intro x0 hx0
  refine loop_rule (fun (x : Int × (List PolygonSide)) => I0 x.1 x.2) (fun (x : Int × (List PolygonSide)) => M0 x.1 x.2) (fun (x : Int × (List PolygonSide)) => polygon_sides_S0 p x.1 x.2) x0 hx0 ?_
  rintro ⟨v11, w3⟩ hx
  have h := h0 v11 w3 hx
  clear hx hx0 x0
  by_cases c1 : v11 < ((p.length : Nat) : Int)
  · have h := h.1 c1
    obtain ⟨c2, c3, c4, c5, c6, h⟩ := h
    have g_1 := (oadd Tryz.prog 3 (wi64 c3))
    have g_2 := (olen cSpot Tryz.prog 24 2 p (by kernel_rfl))
    exact sb (ts := [0, 3, 9, 10, 11]) (ids := [0]) (d := 0) (s0 := ⟨[(0, .sl 2 (p.map cSpot)), (3, .own 0 0 w3.length), (9, .sl 2 (p.map cSpot)), (10, int ((p.length : Nat) : Int)), (11, int (v11 + 1))], [(0, .row 4 ((w3.set (v11 : Int).toNat (⟨(ai p v11), (ai p ((v11 + 1).tmod ((p.length : Nat) : Int)))⟩ : PolygonSide)).map cPolygonSide))], 2⟩) (ac (abt (dec_t c1)) (ac (oidx cSpot c2) (ac g_1 (ac g_2 (ac (orem Tryz.prog 3 .i64 (v11 + 1) ((p.length : Nat) : Int) c4) (ac (oidx cSpot c5) (ac (oown cPolygonSide (n := w3.length) rfl c6) (ac (oset cPolygonSide (⟨(ai p v11), (ai p ((v11 + 1).tmod ((p.length : Nat) : Int)))⟩ : PolygonSide) c6) g_1)))))))) (by kernel_rfl) (by kernel_rfl) rfl ((v11 + 1), (w3.set (v11 : Int).toNat (⟨(ai p v11), (ai p ((v11 + 1).tmod ((p.length : Nat) : Int)))⟩ : PolygonSide))) h.1 h.2 (Weak.anew [(0, some 0)] (by rfl) (wt_cons rfl wk_sl (wt_cons rfl (wk_own rfl (by simp)) (wt_cons rfl wk_sl (wt_cons rfl wk_sc (wt_cons rfl wk_sc wt_nil))))) (wm_row rfl rfl wm_nil))
  · have h := h.2 c1
    rw [h]
    exact sr (ids := [0]) (vs := [.own 0 0 w3.length]) (mem := [(0, .row 4 (w3.map cPolygonSide))]) (abf (dec_f c1)) (by kernel_rfl) (by kernel_rfl) (rts_own rfl rfl rfl rfl)
theorem polygon_sides_W (p : List Spot) (r0 : List PolygonSide) (I0 : Int → (List PolygonSide) → Prop) (M0 : Int → (List PolygonSide) → Nat) (h : polygon_sides_V p r0 I0 M0) (h0 : ∀ (v11 : Int) (w3 : List PolygonSide), I0 v11 w3 → polygon_sides_V0 p r0 I0 M0 v11 w3) : Ret Tryz.prog XS 56 [.sl 2 (p.map cSpot)] (.fr 4 (r0.map cPolygonSide)) := by
  refine fn_rule Tryz.func56 (by kernel_rfl) (by kernel_rfl) (by kernel_rfl) (by kernel_rfl) ?_
  obtain ⟨c1, c2, c3, h⟩ := h
  have g_3 := (olen cSpot Tryz.prog 24 2 p (by kernel_rfl))
  exact sl (ts := [0, 3, 9, 10, 11]) (ids := [0]) (d := 0) (s0 := ⟨[(0, .sl 2 (p.map cSpot)), (3, .own 0 0 ((List.replicate (((p.length : Nat) : Int) : Int).toNat (⟨(⟨0, 0⟩ : Spot), (⟨0, 0⟩ : Spot)⟩ : PolygonSide)).length)), (9, .sl 2 (p.map cSpot)), (10, int ((p.length : Nat) : Int)), (11, int 0)], [(0, .row 4 ((List.replicate (((p.length : Nat) : Int) : Int).toNat (⟨(⟨0, 0⟩ : Spot), (⟨0, 0⟩ : Spot)⟩ : PolygonSide)).map cPolygonSide))], 1⟩) (ac g_3 (ac (omake cPolygonSide (v := (⟨(⟨0, 0⟩ : Spot), (⟨0, 0⟩ : Spot)⟩ : PolygonSide)) (z := [int 0, int 0, int 0, int 0]) (l := ((p.length : Nat) : Int)) (b := 32) rfl c1 c2 c3) g_3)) (by kernel_rfl) (by kernel_rfl) (Weak.anew [(0, some 0)] (by rfl) (wt_cons rfl wk_sl (wt_cons rfl (wk_own rfl rfl) (wt_cons rfl wk_sl (wt_cons rfl wk_sc (wt_cons rfl wk_sc wt_nil))))) (wm_row rfl rfl wm_nil)) (polygon_sides_W0 p r0 I0 M0 h0 (0, (List.replicate (((p.length : Nat) : Int) : Int).toNat (⟨(⟨0, 0⟩ : Spot), (⟨0, 0⟩ : Spot)⟩ : PolygonSide))) h)

-- (polygon.side).holds
abbrev polygon_side_holds_V (s0 : PolygonSide) (q : Spot) (r0 : Bool) : Prop := (∃ (turn1 : Int), Ret Tryz.prog XS 68 [.agg [int s0.a.x, int s0.a.y], .agg [int s0.b.x, int s0.b.y], .agg [int q.x, int q.y]] (int turn1) ∧ ((turn1 = 0 → (∃ (within2 : Bool), Ret Tryz.prog XS 69 [int q.x, int s0.a.x, int s0.b.x] (boo within2) ∧ ((within2 = true → (∃ (within3 : Bool), Ret Tryz.prog XS 69 [int q.y, int s0.a.y, int s0.b.y] (boo within3) ∧ r0 = within3)) ∧ (within2 = false → r0 = false)))) ∧ (¬ (turn1 = 0) → r0 = false)))
theorem polygon_side_holds_W (s0 : PolygonSide) (q : Spot) (r0 : Bool) (h : polygon_side_holds_V s0 q r0) : Ret Tryz.prog XS 61 [.agg [int s0.a.x, int s0.a.y, int s0.b.x, int s0.b.y], .agg [int q.x, int q.y]] (boo r0) := by
  refine fn_rule Tryz.func61 (by kernel_rfl) (by kernel_rfl) (by kernel_rfl) (by kernel_rfl) ?_
  obtain ⟨turn1, c1, h⟩ := h
  have e_1 := (ocs c1)
  by_cases c2 : turn1 = 0
  · have h := h.1 c2
    obtain ⟨within2, c3, h⟩ := h
    have g_2 := (abt (beq_t c2))
    have e_3 := (ac g_2 (ac g_2 (ac g_2 (ac g_2 (ac g_2 (ac g_2 (ac g_2 (ac g_2 (ac g_2 (ac (ocs c3) g_2))))))))))
    rcases Bool.eq_false_or_eq_true within2 with c4 | c4
    · have h := h.1 c4
      obtain ⟨within3, c5, h⟩ := h
      rw [h]
      exact sr (ids := []) (vs := [boo within3]) (mem := []) (ac e_1 (ac e_3 (ac (abt c4) (ac (abt c4) (ac (abt c4) (ac (abt c4) (ac (abt c4) (ac (abt c4) (ac (abt c4) (ac (abt c4) (ac (abt c4) (ac (ocs c5) (abt c4))))))))))))) (by kernel_rfl) (by kernel_rfl) (rts_sc rfl)
    · have h := h.2 c4
      rw [h]
      exact sr (ids := []) (vs := [boo false]) (mem := []) (ac e_1 (ac e_3 (ac (abf c4) (ac (abf c4) (ac (abf c4) (ac (abf c4) (ac (abf c4) (ac (abf c4) (ac (abf c4) (ac (abf c4) (ac (abf c4) (abf c4)))))))))))) (by kernel_rfl) (by kernel_rfl) (rts_sc rfl)
  · have h := h.2 c2
    have g_4 := (abf (beq_f c2))
    rw [h]
    exact sr (ids := []) (vs := [boo false]) (mem := []) (ac e_1 (ac g_4 (ac g_4 (ac g_4 (ac g_4 (ac g_4 (ac g_4 (ac g_4 (ac g_4 (ac g_4 (ac g_4 (ac abff (ac abff (ac abff (ac abff (ac abff (ac abff (ac abff (ac abff (ac abff abff)))))))))))))))))))) (by kernel_rfl) (by kernel_rfl) (rts_sc rfl)

-- polygon.turn
abbrev polygon_turn_V (a : Spot) (b : Spot) (c : Spot) (r0 : Int) : Prop := (InR (b.x - a.x)) ∧ (InR (c.y - b.y)) ∧ (InR ((b.x - a.x) * (c.y - b.y))) ∧ (InR (b.y - a.y)) ∧ (InR (c.x - b.x)) ∧ (InR ((b.y - a.y) * (c.x - b.x))) ∧ (InR (((b.x - a.x) * (c.y - b.y)) - ((b.y - a.y) * (c.x - b.x)))) ∧ r0 = (((b.x - a.x) * (c.y - b.y)) - ((b.y - a.y) * (c.x - b.x)))
theorem polygon_turn_W (a : Spot) (b : Spot) (c : Spot) (r0 : Int) (h : polygon_turn_V a b c r0) : Ret Tryz.prog XS 68 [.agg [int a.x, int a.y], .agg [int b.x, int b.y], .agg [int c.x, int c.y]] (int r0) := by
  refine fn_rule Tryz.func68 (by kernel_rfl) (by kernel_rfl) (by kernel_rfl) (by kernel_rfl) ?_
  obtain ⟨c1, c2, c3, c4, c5, c6, c7, h⟩ := h
  rw [h]
  exact sr (ids := []) (vs := [int (((b.x - a.x) * (c.y - b.y)) - ((b.y - a.y) * (c.x - b.x)))]) (mem := []) (ac (osub Tryz.prog 3 (wi64 c1)) (ac (osub Tryz.prog 3 (wi64 c2)) (ac (omul Tryz.prog 3 (wi64 c3)) (ac (osub Tryz.prog 3 (wi64 c4)) (ac (osub Tryz.prog 3 (wi64 c5)) (ac (omul Tryz.prog 3 (wi64 c6)) (osub Tryz.prog 3 (wi64 c7)))))))) (by kernel_rfl) (by kernel_rfl) (rts_sc rfl)

-- polygon.within
abbrev polygon_within_V (n : Int) (a : Int) (b : Int) (r0 : Bool) : Prop := (((min a b) ≤ n → r0 = (decide (n ≤ (max a b)))) ∧ (¬ ((min a b) ≤ n) → r0 = false))
theorem polygon_within_W (n : Int) (a : Int) (b : Int) (r0 : Bool) (h : polygon_within_V n a b r0) : Ret Tryz.prog XS 69 [int n, int a, int b] (boo r0) := by
  refine fn_rule Tryz.func69 (by kernel_rfl) (by kernel_rfl) (by kernel_rfl) (by kernel_rfl) ?_
  have e_1 := (omin .i64 a b)
  by_cases c1 : (min a b) ≤ n
  · have h := h.1 c1
    have g_2 := (abt (dec_t c1))
    rw [h]
    exact sr (ids := []) (vs := [boo (decide (n ≤ (max a b)))]) (mem := []) (ac e_1 (ac g_2 (ac g_2 (ac g_2 (ac g_2 (ac (omax .i64 a b) (ac g_2 g_2))))))) (by kernel_rfl) (by kernel_rfl) (rts_sc rfl)
  · have h := h.2 c1
    have g_3 := (abf (dec_f c1))
    rw [h]
    exact sr (ids := []) (vs := [boo false]) (mem := []) (ac e_1 (ac g_3 (ac g_3 (ac g_3 (ac g_3 (ac g_3 g_3)))))) (by kernel_rfl) (by kernel_rfl) (rts_sc rfl)

-- (polygon.side).meets
abbrev polygon_side_meets_V (s0 : PolygonSide) (t1 : PolygonSide) (r0 : Bool) : Prop := (∃ (holds1 : Bool), Ret Tryz.prog XS 61 [.agg [int s0.a.x, int s0.a.y, int s0.b.x, int s0.b.y], .agg [int t1.a.x, int t1.a.y]] (boo holds1) ∧ ((holds1 = true → r0 = true) ∧ (holds1 = false → (∃ (holds2 : Bool), Ret Tryz.prog XS 61 [.agg [int s0.a.x, int s0.a.y, int s0.b.x, int s0.b.y], .agg [int t1.b.x, int t1.b.y]] (boo holds2) ∧ ((holds2 = true → r0 = true) ∧ (holds2 = false → (∃ (holds3 : Bool), Ret Tryz.prog XS 61 [.agg [int t1.a.x, int t1.a.y, int t1.b.x, int t1.b.y], .agg [int s0.a.x, int s0.a.y]] (boo holds3) ∧ ((holds3 = true → r0 = true) ∧ (holds3 = false → (∃ (holds4 : Bool), Ret Tryz.prog XS 61 [.agg [int t1.a.x, int t1.a.y, int t1.b.x, int t1.b.y], .agg [int s0.b.x, int s0.b.y]] (boo holds4) ∧ ((holds4 = true → r0 = true) ∧ (holds4 = false → (∃ (divides5 : Bool), Ret Tryz.prog XS 70 [.agg [int s0.a.x, int s0.a.y, int s0.b.x, int s0.b.y], .agg [int t1.a.x, int t1.a.y], .agg [int t1.b.x, int t1.b.y]] (boo divides5) ∧ ((divides5 = true → (∃ (divides6 : Bool), Ret Tryz.prog XS 70 [.agg [int t1.a.x, int t1.a.y, int t1.b.x, int t1.b.y], .agg [int s0.a.x, int s0.a.y], .agg [int s0.b.x, int s0.b.y]] (boo divides6) ∧ r0 = divides6)) ∧ (divides5 = false → r0 = false)))))))))))))))
theorem polygon_side_meets_W (s0 : PolygonSide) (t1 : PolygonSide) (r0 : Bool) (h : polygon_side_meets_V s0 t1 r0) : Ret Tryz.prog XS 62 [.agg [int s0.a.x, int s0.a.y, int s0.b.x, int s0.b.y], .agg [int t1.a.x, int t1.a.y, int t1.b.x, int t1.b.y]] (boo r0) := by
  refine fn_rule Tryz.func62 (by kernel_rfl) (by kernel_rfl) (by kernel_rfl) (by kernel_rfl) ?_
  obtain ⟨holds1, c1, h⟩ := h
  have e_1 := (ocs c1)
  rcases Bool.eq_false_or_eq_true holds1 with c2 | c2
  · have h := h.1 c2
    rw [h]
    exact sr (ids := []) (vs := [boo true]) (mem := []) (ac e_1 (ac (abt c2) (ac (abt c2) (ac (abt c2) (ac (abt c2) (ac (abt c2) (ac abtt (ac abtt (ac abtt (ac abtt (ac abtt (ac abtt (ac abtt (ac abtt (ac abtt (ac abtt (ac abtt (ac abtt (ac abtt (ac abtt (ac abtt (ac abtt (ac abtt (ac abtt abtt)))))))))))))))))))))))) (by kernel_rfl) (by kernel_rfl) (rts_sc rfl)
  · have h := h.2 c2
    obtain ⟨holds2, c3, h⟩ := h
    have e_2 := (ac (abf c2) (ac (abf c2) (ac (abf c2) (ac (abf c2) (ac (ocs c3) (abf c2))))))
    rcases Bool.eq_false_or_eq_true holds2 with c4 | c4
    · have h := h.1 c4
      rw [h]
      exact sr (ids := []) (vs := [boo true]) (mem := []) (ac e_1 (ac e_2 (ac (abt c4) (ac (abt c4) (ac (abt c4) (ac (abt c4) (ac (abt c4) (ac abtt (ac abtt (ac abtt (ac abtt (ac abtt (ac abtt (ac abtt (ac abtt (ac abtt (ac abtt (ac abtt (ac abtt (ac abtt abtt)))))))))))))))))))) (by kernel_rfl) (by kernel_rfl) (rts_sc rfl)
    · have h := h.2 c4
      obtain ⟨holds3, c5, h⟩ := h
      have e_3 := (ac (abf c4) (ac (abf c4) (ac (abf c4) (ac (abf c4) (ac (ocs c5) (abf c4))))))
      rcases Bool.eq_false_or_eq_true holds3 with c6 | c6
      · have h := h.1 c6
        rw [h]
        exact sr (ids := []) (vs := [boo true]) (mem := []) (ac e_1 (ac e_2 (ac e_3 (ac (abt c6) (ac (abt c6) (ac (abt c6) (ac (abt c6) (ac (abt c6) (ac abtt (ac abtt (ac abtt (ac abtt (ac abtt (ac abtt (ac abtt (ac abtt abtt)))))))))))))))) (by kernel_rfl) (by kernel_rfl) (rts_sc rfl)
      · have h := h.2 c6
        obtain ⟨holds4, c7, h⟩ := h
        have e_4 := (ac (abf c6) (ac (abf c6) (ac (abf c6) (ac (abf c6) (ac (ocs c7) (abf c6))))))
        rcases Bool.eq_false_or_eq_true holds4 with c8 | c8
        · have h := h.1 c8
          rw [h]
          exact sr (ids := []) (vs := [boo true]) (mem := []) (ac e_1 (ac e_2 (ac e_3 (ac e_4 (ac (abt c8) (ac (abt c8) (ac (abt c8) (ac (abt c8) (ac (abt c8) (ac (abt c8) (ac (abt c8) (ac (abt c8) (abt c8))))))))))))) (by kernel_rfl) (by kernel_rfl) (rts_sc rfl)
        · have h := h.2 c8
          obtain ⟨divides5, c9, h⟩ := h
          have e_5 := (ac (abf c8) (ac (abf c8) (ac (abf c8) (ac (abf c8) (ac (abf c8) (ac (abf c8) (ac (ocs c9) (abf c8))))))))
          rcases Bool.eq_false_or_eq_true divides5 with c10 | c10
          · have h := h.1 c10
            obtain ⟨divides6, c11, h⟩ := h
            rw [h]
            exact sr (ids := []) (vs := [boo divides6]) (mem := []) (ac e_1 (ac e_2 (ac e_3 (ac e_4 (ac e_5 (ac (abt c10) (ac (abt c10) (ac (abt c10) (ac (abt c10) (ac (abt c10) (ac (abt c10) (ac (ocs c11) (ac (abf c8) (ac (abt c10) (abf c8))))))))))))))) (by kernel_rfl) (by kernel_rfl) (rts_sc rfl)
          · have h := h.2 c10
            rw [h]
            exact sr (ids := []) (vs := [boo false]) (mem := []) (ac e_1 (ac e_2 (ac e_3 (ac e_4 (ac e_5 (ac (abf c10) (ac (abf c10) (ac (abf c10) (ac (abf c10) (ac (abf c10) (ac (abf c10) (ac (abf c8) (ac (abf c10) (abf c8)))))))))))))) (by kernel_rfl) (by kernel_rfl) (rts_sc rfl)

end Go.Ab
end

section
namespace Go.Ab
open Go.Proofs
set_option maxRecDepth 100000
set_option linter.unusedVariables false
attribute [local irreducible] todoQ
-- (polygon.side).divides
abbrev polygon_side_divides_V (s0 : PolygonSide) (p : Spot) (q : Spot) (r0 : Bool) : Prop := (∃ (turn1 : Int), Ret Tryz.prog XS 68 [.agg [int s0.a.x, int s0.a.y], .agg [int s0.b.x, int s0.b.y], .agg [int p.x, int p.y]] (int turn1) ∧ (∃ (turn2 : Int), Ret Tryz.prog XS 68 [.agg [int s0.a.x, int s0.a.y], .agg [int s0.b.x, int s0.b.y], .agg [int q.x, int q.y]] (int turn2) ∧ ((turn1 < 0 → ((turn2 > 0 → r0 = true) ∧ (¬ (turn2 > 0) → ((turn1 > 0 → r0 = (decide (turn2 < 0))) ∧ (¬ (turn1 > 0) → r0 = false))))) ∧ (¬ (turn1 < 0) → ((turn1 > 0 → r0 = (decide (turn2 < 0))) ∧ (¬ (turn1 > 0) → r0 = false))))))
theorem polygon_side_divides_W (s0 : PolygonSide) (p : Spot) (q : Spot) (r0 : Bool) (h : polygon_side_divides_V s0 p q r0) : Ret Tryz.prog XS 70 [.agg [int s0.a.x, int s0.a.y, int s0.b.x, int s0.b.y], .agg [int p.x, int p.y], .agg [int q.x, int q.y]] (boo r0) := by
  refine fn_rule Tryz.func70 (by kernel_rfl) (by kernel_rfl) (by kernel_rfl) (by kernel_rfl) ?_
  obtain ⟨turn1, c1, turn2, c2, h⟩ := h
  have e_1 := (ac (ocs c1) (ocs c2))
  by_cases c3 : turn1 < 0
  · have h := h.1 c3
    have g_2 := (abt (dec_t c3))
    have e_3 := (ac g_2 (ac g_2 g_2))
    by_cases c4 : turn2 > 0
    · have h := h.1 c4
      have g_4 := (abt (dec_t c4))
      rw [h]
      exact sr (ids := []) (vs := [boo true]) (mem := []) (ac e_1 (ac e_3 (ac g_4 (ac g_4 (ac g_4 (ac g_4 g_4)))))) (by kernel_rfl) (by kernel_rfl) (rts_sc rfl)
    · have h := h.2 c4
      have g_5 := (abf (dec_f c4))
      have e_6 := (ac g_5 (ac g_5 g_5))
      by_cases c5 : turn1 > 0
      · have h := h.1 c5
        have g_7 := (abt (dec_t c5))
        rw [h]
        exact sr (ids := []) (vs := [boo (decide (turn2 < 0))]) (mem := []) (ac e_1 (ac e_3 (ac e_6 (ac g_7 (ac g_7 (ac g_5 (ac g_7 g_5))))))) (by kernel_rfl) (by kernel_rfl) (rts_sc rfl)
      · have h := h.2 c5
        have g_8 := (abf (dec_f c5))
        rw [h]
        exact sr (ids := []) (vs := [boo false]) (mem := []) (ac e_1 (ac e_3 (ac e_6 (ac g_8 (ac g_8 (ac g_5 (ac g_8 g_5))))))) (by kernel_rfl) (by kernel_rfl) (rts_sc rfl)
  · have h := h.2 c3
    have g_9 := (abf (dec_f c3))
    have e_10 := (ac g_9 (ac g_9 (ac g_9 (ac abff (ac abff abff)))))
    by_cases c4 : turn1 > 0
    · have h := h.1 c4
      have g_11 := (abt (dec_t c4))
      rw [h]
      exact sr (ids := []) (vs := [boo (decide (turn2 < 0))]) (mem := []) (ac e_1 (ac e_10 (ac g_11 (ac g_11 (ac abff (ac g_11 abff)))))) (by kernel_rfl) (by kernel_rfl) (rts_sc rfl)
    · have h := h.2 c4
      have g_12 := (abf (dec_f c4))
      rw [h]
      exact sr (ids := []) (vs := [boo false]) (mem := []) (ac e_1 (ac e_10 (ac g_12 (ac g_12 (ac abff (ac g_12 abff)))))) (by kernel_rfl) (by kernel_rfl) (rts_sc rfl)

-- (grade.times).move
abbrev grade_times_move_V (m : Int) (s1 : Spot) (r0 : Spot) : Prop := (InR (m * s1.x)) ∧ (InR (m * s1.y)) ∧ r0 = (⟨(m * s1.x), (m * s1.y)⟩ : Spot)
theorem grade_times_move_W (m : Int) (s1 : Spot) (r0 : Spot) (h : grade_times_move_V m s1 r0) : Ret Tryz.prog XS 18 [int m, .agg [int s1.x, int s1.y]] (.agg [int r0.x, int r0.y]) := by
  refine fn_rule Tryz.func18 (by kernel_rfl) (by kernel_rfl) (by kernel_rfl) (by kernel_rfl) ?_
  obtain ⟨c1, c2, h⟩ := h
  rw [h]
  exact sr (ids := []) (vs := [.agg [int (m * s1.x), int (m * s1.y)]]) (mem := []) (ac (omul Tryz.prog 3 (wi64 c1)) (omul Tryz.prog 3 (wi64 c2))) (by kernel_rfl) (by kernel_rfl) (rts_agg (rcs_sc (rcs_sc (rcs_nil rfl))))

-- grade.along
def grade_along_S0 (l : List Spot) (a : Spot) (b : Spot) (v19 : Int) (w8 : List Spot) : AS := ⟨[(4, .ptr 0 0 0), (5, .ptr 1 0 0), (7, int (((l.length : Nat) : Int) - 1)), (8, .own 2 0 w8.length), (17, .sl 2 (l.map cSpot)), (18, int ((l.length : Nat) : Int)), (19, int v19)], [(0, .box [int a.x, int a.y]), (1, .box [int b.x, int b.y]), (2, .row 2 (w8.map cSpot))], 3⟩
abbrev grade_along_V (l : List Spot) (a : Spot) (b : Spot) (r0 : List Spot) (I0 : Int → (List Spot) → Prop) (M0 : Int → (List Spot) → Nat) : Prop := (InR (((l.length : Nat) : Int) - 1)) ∧ (0 ≤ ((l.length : Nat) : Int)) ∧ (((l.length : Nat) : Int) * 16 ≤ 140737488355328) ∧ (((l.length : Nat) : Int) ≤ 9223372036854775807) ∧ I0 0 (List.replicate (((l.length : Nat) : Int) : Int).toNat (⟨0, 0⟩ : Spot))
abbrev grade_along_V0 (l : List Spot) (a : Spot) (b : Spot) (r0 : List Spot) (I0 : Int → (List Spot) → Prop) (M0 : Int → (List Spot) → Nat) (v19 : Int) (w8 : List Spot) : Prop := ((v19 < ((l.length : Nat) : Int) → (Idx v19 l.length) ∧ (InR ((((l.length : Nat) : Int) - 1) - v19)) ∧ (InR (((((l.length : Nat) : Int) - 1) - v19) * a.x)) ∧ (InR (v19 * b.x)) ∧ (InR ((((((l.length : Nat) : Int) - 1) - v19) * a.x) + (v19 * b.x))) ∧ (∃ (share1 : Int), Ret Tryz.prog XS 34 [int ((((((l.length : Nat) : Int) - 1) - v19) * a.x) + (v19 * b.x)), int (((l.length : Nat) : Int) - 1)] (int share1) ∧ (InR ((ai l v19).x + share1)) ∧ (InR (((((l.length : Nat) : Int) - 1) - v19) * a.y)) ∧ (InR (v19 * b.y)) ∧ (InR ((((((l.length : Nat) : Int) - 1) - v19) * a.y) + (v19 * b.y))) ∧ (∃ (share2 : Int), Ret Tryz.prog XS 34 [int ((((((l.length : Nat) : Int) - 1) - v19) * a.y) + (v19 * b.y)), int (((l.length : Nat) : Int) - 1)] (int share2) ∧ (InR ((ai l v19).y + share2)) ∧ (Idx v19 w8.length) ∧ (InR (v19 + 1)) ∧ I0 (v19 + 1) (w8.set (v19 : Int).toNat (⟨((ai l v19).x + share1), ((ai l v19).y + share2)⟩ : Spot)) ∧ M0 (v19 + 1) (w8.set (v19 : Int).toNat (⟨((ai l v19).x + share1), ((ai l v19).y + share2)⟩ : Spot)) < M0 v19 w8))) ∧ (¬ (v19 < ((l.length : Nat) : Int)) → r0 = w8))
theorem grade_along_W0 (l : List Spot) (a : Spot) (b : Spot) (r0 : List Spot) (I0 : Int → (List Spot) → Prop) (M0 : Int → (List Spot) → Nat) (h0 : ∀ (v19 : Int) (w8 : List Spot), I0 v19 w8 → grade_along_V0 l a b r0 I0 M0 v19 w8) : ∀ (x : Int × (List Spot)), I0 x.1 x.2 → loopQ Tryz.prog XS Tryz.f19 0 (.fr 2 (r0.map cSpot)) [] (grade_along_S0 l a b x.1 x.2) := by
  intro x0 hx0
  refine loop_rule (fun (x : Int × (List Spot)) => I0 x.1 x.2) (fun (x : Int × (List Spot)) => M0 x.1 x.2) (fun (x : Int × (List Spot)) => grade_along_S0 l a b x.1 x.2) x0 hx0 ?_
  rintro ⟨v19, w8⟩ hx
  have h := h0 v19 w8 hx
  clear hx hx0 x0
  by_cases c1 : v19 < ((l.length : Nat) : Int)
  · have h := h.1 c1
    obtain ⟨c2, c3, c4, c5, c6, share1, c7, c8, c9, c10, c11, share2, c12, c13, c14, c15, h⟩ := h
    have g_1 := (osub Tryz.prog 3 (wi64 c3))
    exact sb (ts := [4, 5, 7, 8, 17, 18, 19]) (ids := [0, 1, 2]) (d := 0) (s0 := ⟨[(4, .ptr 0 0 0), (5, .ptr 1 0 0), (7, int (((l.length : Nat) : Int) - 1)), (8, .own 2 0 w8.length), (17, .sl 2 (l.map cSpot)), (18, int ((l.length : Nat) : Int)), (19, int (v19 + 1))], [(0, .box [int a.x, int a.y]), (1, .box [int b.x, int b.y]), (2, .row 2 ((w8.set (v19 : Int).toNat (⟨((ai l v19).x + share1), ((ai l v19).y + share2)⟩ : Spot)).map cSpot))], 4⟩) (ac (abt (dec_t c1)) (ac (oidx cSpot c2) (ac g_1 (ac (omul Tryz.prog 3 (wi64 c4)) (ac (omul Tryz.prog 3 (wi64 c5)) (ac (oadd Tryz.prog 3 (wi64 c6)) (ac (ocs c7) (ac (oadd Tryz.prog 3 (wi64 c8)) (ac g_1 (ac (omul Tryz.prog 3 (wi64 c9)) (ac (omul Tryz.prog 3 (wi64 c10)) (ac (oadd Tryz.prog 3 (wi64 c11)) (ac (ocs c12) (ac (oadd Tryz.prog 3 (wi64 c13)) (ac (oown cSpot (n := w8.length) rfl c14) (ac (oset cSpot (⟨((ai l v19).x + share1), ((ai l v19).y + share2)⟩ : Spot) c14) (oadd Tryz.prog 3 (wi64 c15)))))))))))))))))) (by kernel_rfl) (by kernel_rfl) rfl ((v19 + 1), (w8.set (v19 : Int).toNat (⟨((ai l v19).x + share1), ((ai l v19).y + share2)⟩ : Spot))) h.1 h.2 (Weak.anew [(0, some 0), (1, some 1), (2, some 2)] (by rfl) (wt_cons rfl (wk_ptr rfl) (wt_cons rfl (wk_ptr rfl) (wt_cons rfl wk_sc (wt_cons rfl (wk_own rfl (by simp)) (wt_cons rfl wk_sl (wt_cons rfl wk_sc (wt_cons rfl wk_sc wt_nil))))))) (wm_box rfl rfl (wl_cons wk_sc (wl_cons wk_sc wl_nil)) (wm_box rfl rfl (wl_cons wk_sc (wl_cons wk_sc wl_nil)) (wm_row rfl rfl wm_nil))))
  · have h := h.2 c1
    rw [h]
    exact sr (ids := [2]) (vs := [.own 2 0 w8.length]) (mem := [(2, .row 2 (w8.map cSpot))]) (abf (dec_f c1)) (by kernel_rfl) (by kernel_rfl) (rts_own rfl rfl rfl rfl)
theorem grade_along_W (l : List Spot) (a : Spot) (b : Spot) (r0 : List Spot) (I0 : Int → (List Spot) → Prop) (M0 : Int → (List Spot) → Nat) (h : grade_along_V l a b r0 I0 M0) (h0 : ∀ (v19 : Int) (w8 : List Spot), I0 v19 w8 → grade_along_V0 l a b r0 I0 M0 v19 w8) : Ret Tryz.prog XS 19 [.sl 2 (l.map cSpot), .agg [int a.x, int a.y], .agg [int b.x, int b.y]] (.fr 2 (r0.map cSpot)) := by
  refine fn_rule Tryz.func19 (by kernel_rfl) (by kernel_rfl) (by kernel_rfl) (by kernel_rfl) ?_
  obtain ⟨c1, c2, c3, c4, h⟩ := h
  have g_2 := (olen cSpot Tryz.prog 24 2 l (by kernel_rfl))
  exact sl (ts := [4, 5, 7, 8, 17, 18, 19]) (ids := [0, 1, 2]) (d := 0) (s0 := ⟨[(4, .ptr 0 0 0), (5, .ptr 1 0 0), (7, int (((l.length : Nat) : Int) - 1)), (8, .own 2 0 ((List.replicate (((l.length : Nat) : Int) : Int).toNat (⟨0, 0⟩ : Spot)).length)), (17, .sl 2 (l.map cSpot)), (18, int ((l.length : Nat) : Int)), (19, int 0)], [(0, .box [int a.x, int a.y]), (1, .box [int b.x, int b.y]), (2, .row 2 ((List.replicate (((l.length : Nat) : Int) : Int).toNat (⟨0, 0⟩ : Spot)).map cSpot))], 3⟩) (ac g_2 (ac (osub Tryz.prog 3 (wi64 c1)) (ac g_2 (ac (omake cSpot (v := (⟨0, 0⟩ : Spot)) (z := [int 0, int 0]) (l := ((l.length : Nat) : Int)) (b := 16) rfl c2 c3 c4) g_2)))) (by kernel_rfl) (by kernel_rfl) (Weak.anew [(0, some 0), (1, some 1), (2, some 2)] (by rfl) (wt_cons rfl (wk_ptr rfl) (wt_cons rfl (wk_ptr rfl) (wt_cons rfl wk_sc (wt_cons rfl (wk_own rfl rfl) (wt_cons rfl wk_sl (wt_cons rfl wk_sc (wt_cons rfl wk_sc wt_nil))))))) (wm_box rfl rfl (wl_cons wk_sc (wl_cons wk_sc wl_nil)) (wm_box rfl rfl (wl_cons wk_sc (wl_cons wk_sc wl_nil)) (wm_row rfl rfl wm_nil)))) (grade_along_W0 l a b r0 I0 M0 h0 (0, (List.replicate (((l.length : Nat) : Int) : Int).toNat (⟨0, 0⟩ : Spot))) h)

-- grade.share
abbrev grade_share_V (n : Int) (s1 : Int) (r0 : Int) : Prop := ((n < 0 → (InR (-n)) ∧ (∃ (share1 : Int), Ret Tryz.prog XS 34 [int (-n), int s1] (int share1) ∧ (InR (-share1)) ∧ r0 = (-share1))) ∧ (¬ (n < 0) → (InR (2 * n)) ∧ (InR ((2 * n) + s1)) ∧ (InR (2 * s1)) ∧ ((2 * s1) ≠ 0) ∧ (InR (((2 * n) + s1).tdiv (2 * s1))) ∧ r0 = (((2 * n) + s1).tdiv (2 * s1))))
theorem grade_share_W (n : Int) (s1 : Int) (r0 : Int) (h : grade_share_V n s1 r0) : Ret Tryz.prog XS 34 [int n, int s1] (int r0) := by
  refine fn_rule Tryz.func34 (by kernel_rfl) (by kernel_rfl) (by kernel_rfl) (by kernel_rfl) ?_
  by_cases c1 : n < 0
  · have h := h.1 c1
    obtain ⟨c2, share1, c3, c4, h⟩ := h
    rw [h]
    exact sr (ids := []) (vs := [int (-share1)]) (mem := []) (ac (abt (dec_t c1)) (ac (oneg (wi64 c2)) (ac (ocs c3) (oneg (wi64 c4))))) (by kernel_rfl) (by kernel_rfl) (rts_sc rfl)
  · have h := h.2 c1
    obtain ⟨c2, c3, c4, c5, c6, h⟩ := h
    rw [h]
    exact sr (ids := []) (vs := [int (((2 * n) + s1).tdiv (2 * s1))]) (mem := []) (ac (abf (dec_f c1)) (ac (omul Tryz.prog 3 (wi64 c2)) (ac (oadd Tryz.prog 3 (wi64 c3)) (ac (omul Tryz.prog 3 (wi64 c4)) (oquo Tryz.prog 3 c5 (wi64 c6)))))) (by kernel_rfl) (by kernel_rfl) (rts_sc rfl)

-- garmentref21.Graded
def garmentref21_Graded_S0 (listappend : Piece) (a : Int) (v7 : Int) : AS := ⟨[(1, int a), (2, .ptr 0 0 0), (6, int ((listappend.edges.length : Nat) : Int)), (7, int v7)], [(0, .box [str listappend.name, .sl 2 (listappend.edges.map cEdge), int listappend.grain, .sl 2 (listappend.notches.map cNotch), .sl 2 (listappend.corners.map cSpot), .sl 1 (listappend.widths.map cI), boo listappend.match_])], 1⟩
def garmentref21_Graded_S1 (listappend : Piece) (a : Int) (v9 : List Edge) (v10 : Int) : AS := ⟨[(1, int a), (2, .ptr 0 0 0), (6, int ((listappend.edges.length : Nat) : Int)), (9, .own 1 0 v9.length), (10, int v10)], [(1, .row 2 (v9.map cEdge)), (0, .box [str listappend.name, .sl 2 (listappend.edges.map cEdge), int listappend.grain, .sl 2 (listappend.notches.map cNotch), .sl 2 (listappend.corners.map cSpot), .sl 1 (listappend.widths.map cI), boo listappend.match_])], 2⟩
abbrev garmentref21_Graded_V (listappend : Piece) (a : Int) (r0 : List Edge) (r1 : Int) (I0 : Int → Prop) (M0 : Int → Nat) (I1 : (List Edge) → Int → Prop) (M1 : (List Edge) → Int → Nat) : Prop := (∃ (within1 : Bool), Ret Tryz.prog XS 20 [int a, int 100] (boo within1) ∧ ((within1 = true → ((((listappend.corners.length : Nat) : Int) = ((listappend.edges.length : Nat) : Int) → I0 0) ∧ (¬ (((listappend.corners.length : Nat) : Int) = ((listappend.edges.length : Nat) : Int)) → r0 = ([] : List Edge) ∧ r1 = 1))) ∧ (within1 = false → r0 = ([] : List Edge) ∧ r1 = 3)))
abbrev garmentref21_Graded_V0 (listappend : Piece) (a : Int) (r0 : List Edge) (r1 : Int) (I0 : Int → Prop) (M0 : Int → Nat) (I1 : (List Edge) → Int → Prop) (M1 : (List Edge) → Int → Nat) (v7 : Int) : Prop := ((v7 < ((listappend.edges.length : Nat) : Int) → (Idx v7 listappend.corners.length) ∧ (∃ (within1_1 : Bool), Ret Tryz.prog XS 20 [int ((ai listappend.corners v7).x), int 1000] (boo within1_1) ∧ ((within1_1 = true → (∃ (within2 : Bool), Ret Tryz.prog XS 20 [int ((ai listappend.corners v7).y), int 1000] (boo within2) ∧ ((within2 = true → (InR (v7 + 1)) ∧ I0 (v7 + 1) ∧ M0 (v7 + 1) < M0 v7) ∧ (within2 = false → r0 = ([] : List Edge) ∧ r1 = 3)))) ∧ (within1_1 = false → r0 = ([] : List Edge) ∧ r1 = 3)))) ∧ (¬ (v7 < ((listappend.edges.length : Nat) : Int)) → (∃ (check1 : Int), Ret Tryz.prog XS 21 [.sl 2 (listappend.edges.map cEdge)] (int check1) ∧ ((check1 = 0 → I1 ([] : List Edge) 0) ∧ (¬ (check1 = 0) → r0 = ([] : List Edge) ∧ r1 = check1)))))
abbrev garmentref21_Graded_V1 (listappend : Piece) (a : Int) (r0 : List Edge) (r1 : Int) (I0 : Int → Prop) (M0 : Int → Nat) (I1 : (List Edge) → Int → Prop) (M1 : (List Edge) → Int → Nat) (v9 : List Edge) (v10 : Int) : Prop := ((v10 < ((listappend.edges.length : Nat) : Int) → (Idx v10 listappend.corners.length) ∧ (InR (v10 + 1)) ∧ (((listappend.edges.length : Nat) : Int) ≠ 0) ∧ (Idx ((v10 + 1).tmod ((listappend.edges.length : Nat) : Int)) listappend.corners.length) ∧ (Idx v10 listappend.edges.length) ∧ (InR (a * (ai listappend.corners v10).x)) ∧ (InR (a * (ai listappend.corners v10).y)) ∧ (InR (a * (ai listappend.corners ((v10 + 1).tmod ((listappend.edges.length : Nat) : Int))).x)) ∧ (InR (a * (ai listappend.corners ((v10 + 1).tmod ((listappend.edges.length : Nat) : Int))).y)) ∧ (∃ (graded1 : Edge), Ret Tryz.prog XS 22 [.agg [str ((ai listappend.edges v10).name), .sl 2 (((ai listappend.edges v10).line).map cSpot)], .agg [int (a * (ai listappend.corners v10).x), int (a * (ai listappend.corners v10).y)], .agg [int (a * (ai listappend.corners ((v10 + 1).tmod ((listappend.edges.length : Nat) : Int))).x), int (a * (ai listappend.corners ((v10 + 1).tmod ((listappend.edges.length : Nat) : Int))).y)]] (.agg [str graded1.name, .fr 2 (graded1.line.map cSpot)]) ∧ (Cap 40 (v9 ++ ([(⟨graded1.name, graded1.line⟩ : Edge)] : List Edge)).length) ∧ I1 (v9 ++ ([(⟨graded1.name, graded1.line⟩ : Edge)] : List Edge)) (v10 + 1) ∧ M1 (v9 ++ ([(⟨graded1.name, graded1.line⟩ : Edge)] : List Edge)) (v10 + 1) < M1 v9 v10)) ∧ (¬ (v10 < ((listappend.edges.length : Nat) : Int)) → (∃ (check1_1 : Int), Ret Tryz.prog XS 21 [.sl 2 (v9.map cEdge)] (int check1_1) ∧ ((check1_1 = 0 → r0 = v9 ∧ r1 = 0) ∧ (¬ (check1_1 = 0) → r0 = ([] : List Edge) ∧ r1 = check1_1)))))
theorem garmentref21_Graded_W1 (listappend : Piece) (a : Int) (r0 : List Edge) (r1 : Int) (I0 : Int → Prop) (M0 : Int → Nat) (I1 : (List Edge) → Int → Prop) (M1 : (List Edge) → Int → Nat) (h0 : ∀ (v7 : Int), I0 v7 → garmentref21_Graded_V0 listappend a r0 r1 I0 M0 I1 M1 v7) (h1 : ∀ (v9 : List Edge) (v10 : Int), I1 v9 v10 → garmentref21_Graded_V1 listappend a r0 r1 I0 M0 I1 M1 v9 v10) : ∀ (x : (List Edge) × Int), I1 x.1 x.2 → loopQ Tryz.prog XS Tryz.f8 1 (.tup [.fr 2 (r0.map cEdge), int r1]) [] (garmentref21_Graded_S1 listappend a x.1 x.2) := by
  intro x0 hx0
  refine loop_rule (fun (x : (List Edge) × Int) => I1 x.1 x.2) (fun (x : (List Edge) × Int) => M1 x.1 x.2) (fun (x : (List Edge) × Int) => garmentref21_Graded_S1 listappend a x.1 x.2) x0 hx0 ?_
  rintro ⟨v9, v10⟩ hx
  have h := h1 v9 v10 hx
  clear hx hx0 x0
  by_cases c1 : v10 < ((listappend.edges.length : Nat) : Int)
  · have h := h.1 c1
    obtain ⟨c2, c3, c4, c5, c6, c7, c8, c9, c10, graded1, c11, c12, h⟩ := h
    have g_1 := (abt (dec_t c1))
    have g_2 := (oidx cSpot c2)
    have g_3 := (oadd Tryz.prog 3 (wi64 c3))
    exact sb (ts := [1, 2, 6, 9, 10]) (ids := [6, 0]) (d := 0) (s0 := ⟨[(1, int a), (2, .ptr 0 0 0), (6, int ((listappend.edges.length : Nat) : Int)), (9, .own 6 0 ((v9 ++ ([(⟨graded1.name, graded1.line⟩ : Edge)] : List Edge)).length)), (10, int (v10 + 1))], [(6, .row 2 ((v9 ++ ([(⟨graded1.name, graded1.line⟩ : Edge)] : List Edge)).map cEdge)), (0, .box [str listappend.name, .sl 2 (listappend.edges.map cEdge), int listappend.grain, .sl 2 (listappend.notches.map cNotch), .sl 2 (listappend.corners.map cSpot), .sl 1 (listappend.widths.map cI), boo listappend.match_])], 7⟩) (ac g_1 (ac g_2 (ac g_3 (ac (orem Tryz.prog 3 .i64 (v10 + 1) ((listappend.edges.length : Nat) : Int) c4) (ac (oidx cSpot c5) (ac (oidx cEdge c6) (ac (omul Tryz.prog 3 (wi64 c7)) (ac (omul Tryz.prog 3 (wi64 c8)) (ac (omul Tryz.prog 3 (wi64 c9)) (ac (omul Tryz.prog 3 (wi64 c10)) (ac (ocs c11) (ac (ofz cSpot graded1.line (n := (graded1.line.map cSpot).length) (List.length_map ..)) (ac (oappo cEdge (n := v9.length) (m := ([(⟨graded1.name, graded1.line⟩ : Edge)] : List Edge).length) rfl rfl c12) g_3))))))))))))) (by kernel_rfl) (by kernel_rfl) rfl ((v9 ++ ([(⟨graded1.name, graded1.line⟩ : Edge)] : List Edge)), (v10 + 1)) h.1 h.2 (Weak.anew [(1, some 6), (0, some 0)] (by rfl) (wt_cons rfl wk_sc (wt_cons rfl (wk_ptr rfl) (wt_cons rfl wk_sc (wt_cons rfl (wk_own rfl rfl) (wt_cons rfl wk_sc wt_nil))))) (wm_row rfl rfl (wm_box rfl rfl (wl_cons wk_sc (wl_cons wk_sl (wl_cons wk_sc (wl_cons wk_sl (wl_cons wk_sl (wl_cons wk_sl (wl_cons wk_sc wl_nil))))))) wm_nil)))
  · have h := h.2 c1
    obtain ⟨check1_1, c2, h⟩ := h
    have g_4 := (abf (dec_f c1))
    have e_5 := (ac g_4 (ocl [1] [(1, .row 2 (v9.map cEdge))] [.own 1 0 v9.length] (as_cons (at_row rfl rfl) as_nil) c2))
    by_cases c3 : check1_1 = 0
    · have h := h.1 c3
      have g_6 := (abf (bne_f c3))
      rw [h.1, h.2]
      exact sr (ids := [1]) (vs := [.own 1 0 v9.length, int 0]) (mem := [(1, .row 2 (v9.map cEdge))]) (ac e_5 g_6) (by kernel_rfl) (by kernel_rfl) (rts_own rfl rfl rfl (rts_sc rfl))
    · have h := h.2 c3
      have g_7 := (abt (bne_t c3))
      rw [h.1, h.2]
      exact sr (ids := []) (vs := [.nil, int check1_1]) (mem := []) (ac e_5 g_7) (by kernel_rfl) (by kernel_rfl) (rts_nilfr (rts_sc rfl))
theorem garmentref21_Graded_W0 (listappend : Piece) (a : Int) (r0 : List Edge) (r1 : Int) (I0 : Int → Prop) (M0 : Int → Nat) (I1 : (List Edge) → Int → Prop) (M1 : (List Edge) → Int → Nat) (h0 : ∀ (v7 : Int), I0 v7 → garmentref21_Graded_V0 listappend a r0 r1 I0 M0 I1 M1 v7) (h1 : ∀ (v9 : List Edge) (v10 : Int), I1 v9 v10 → garmentref21_Graded_V1 listappend a r0 r1 I0 M0 I1 M1 v9 v10) : ∀ (x : Int), I0 x → loopQ Tryz.prog XS Tryz.f8 0 (.tup [.fr 2 (r0.map cEdge), int r1]) [] (garmentref21_Graded_S0 listappend a x) := by
  intro x0 hx0
  refine loop_rule (fun (x : Int) => I0 x) (fun (x : Int) => M0 x) (fun (x : Int) => garmentref21_Graded_S0 listappend a x) x0 hx0 ?_
  intro v7 hx
  have h := h0 v7 hx
  clear hx hx0 x0
  by_cases c1 : v7 < ((listappend.edges.length : Nat) : Int)
  · have h := h.1 c1
    obtain ⟨c2, within1_1, c3, h⟩ := h
    have g_8 := (abt (dec_t c1))
    have g_9 := (oidx cSpot c2)
    have e_10 := (ac g_8 (ac g_9 (ocs c3)))
    rcases Bool.eq_false_or_eq_true within1_1 with c4 | c4
    · have h := h.1 c4
      obtain ⟨within2, c5, h⟩ := h
      have g_11 := (abf (not_f c4))
      have e_12 := (ac g_11 (ac g_11 (ac g_11 (ac g_11 (ac g_9 (ac g_11 (ac g_11 (ac g_11 (ac (ocs c5) (ac g_11 g_11))))))))))
      rcases Bool.eq_false_or_eq_true within2 with c6 | c6
      · have h := h.1 c6
        obtain ⟨c7, h⟩ := h
        exact sb (ts := [1, 2, 6, 7]) (ids := [0]) (d := 0) (s0 := ⟨[(1, int a), (2, .ptr 0 0 0), (6, int ((listappend.edges.length : Nat) : Int)), (7, int (v7 + 1))], [(0, .box [str listappend.name, .sl 2 (listappend.edges.map cEdge), int listappend.grain, .sl 2 (listappend.notches.map cNotch), .sl 2 (listappend.corners.map cSpot), .sl 1 (listappend.widths.map cI), boo listappend.match_])], 1⟩) (ac e_10 (ac e_12 (ac (abf (not_f c6)) (oadd Tryz.prog 3 (wi64 c7))))) (by kernel_rfl) (by kernel_rfl) rfl (v7 + 1) h.1 h.2 (Weak.anew [(0, some 0)] (by rfl) (wt_cons rfl wk_sc (wt_cons rfl (wk_ptr rfl) (wt_cons rfl wk_sc (wt_cons rfl wk_sc wt_nil)))) (wm_box rfl rfl (wl_cons wk_sc (wl_cons wk_sl (wl_cons wk_sc (wl_cons wk_sl (wl_cons wk_sl (wl_cons wk_sl (wl_cons wk_sc wl_nil))))))) wm_nil))
      · have h := h.2 c6
        rw [h.1, h.2]
        exact sr (ids := []) (vs := [.nil, int 3]) (mem := []) (ac e_10 (ac e_12 (abt (not_t c6)))) (by kernel_rfl) (by kernel_rfl) (rts_nilfr (rts_sc rfl))
    · have h := h.2 c4
      have g_13 := (abt (not_t c4))
      rw [h.1, h.2]
      exact sr (ids := []) (vs := [.nil, int 3]) (mem := []) (ac e_10 (ac g_13 (ac g_13 (ac g_13 (ac g_13 (ac g_13 (ac g_13 (ac g_13 (ac g_13 (ac g_13 abtt)))))))))) (by kernel_rfl) (by kernel_rfl) (rts_nilfr (rts_sc rfl))
  · have h := h.2 c1
    obtain ⟨check1, c2, h⟩ := h
    have g_14 := (abf (dec_f c1))
    have e_15 := (ac g_14 (ocs c2))
    by_cases c3 : check1 = 0
    · have h := h.1 c3
      have g_16 := (abf (bne_f c3))
      exact sl (ts := [1, 2, 6, 9, 10]) (ids := [0]) (d := 1) (s0 := ⟨[(1, int a), (2, .ptr 0 0 0), (6, int ((listappend.edges.length : Nat) : Int)), (9, .nil), (10, int 0)], [(0, .box [str listappend.name, .sl 2 (listappend.edges.map cEdge), int listappend.grain, .sl 2 (listappend.notches.map cNotch), .sl 2 (listappend.corners.map cSpot), .sl 1 (listappend.widths.map cI), boo listappend.match_])], 1⟩) (ac e_15 g_16) (by kernel_rfl) (by kernel_rfl) (Weak.anew [(1, none), (0, some 0)] (by rfl) (wt_cons rfl wk_sc (wt_cons rfl (wk_ptr rfl) (wt_cons rfl wk_sc (wt_cons rfl (wk_nilown rfl) (wt_cons rfl wk_sc wt_nil))))) (wm_none rfl (wm_box rfl rfl (wl_cons wk_sc (wl_cons wk_sl (wl_cons wk_sc (wl_cons wk_sl (wl_cons wk_sl (wl_cons wk_sl (wl_cons wk_sc wl_nil))))))) wm_nil))) (garmentref21_Graded_W1 listappend a r0 r1 I0 M0 I1 M1 h0 h1 (([] : List Edge), 0) h)
    · have h := h.2 c3
      have g_17 := (abt (bne_t c3))
      rw [h.1, h.2]
      exact sr (ids := []) (vs := [.nil, int check1]) (mem := []) (ac e_15 g_17) (by kernel_rfl) (by kernel_rfl) (rts_nilfr (rts_sc rfl))
theorem garmentref21_Graded_W (listappend : Piece) (a : Int) (r0 : List Edge) (r1 : Int) (I0 : Int → Prop) (M0 : Int → Nat) (I1 : (List Edge) → Int → Prop) (M1 : (List Edge) → Int → Nat) (h : garmentref21_Graded_V listappend a r0 r1 I0 M0 I1 M1) (h0 : ∀ (v7 : Int), I0 v7 → garmentref21_Graded_V0 listappend a r0 r1 I0 M0 I1 M1 v7) (h1 : ∀ (v9 : List Edge) (v10 : Int), I1 v9 v10 → garmentref21_Graded_V1 listappend a r0 r1 I0 M0 I1 M1 v9 v10) : Ret Tryz.prog XS 8 [.agg [str listappend.name, .sl 2 (listappend.edges.map cEdge), int listappend.grain, .sl 2 (listappend.notches.map cNotch), .sl 2 (listappend.corners.map cSpot), .sl 1 (listappend.widths.map cI), boo listappend.match_], int a] (.tup [.fr 2 (r0.map cEdge), int r1]) := by
  refine fn_rule Tryz.func8 (by kernel_rfl) (by kernel_rfl) (by kernel_rfl) (by kernel_rfl) ?_
  obtain ⟨within1, c1, h⟩ := h
  have e_18 := (ocs c1)
  rcases Bool.eq_false_or_eq_true within1 with c2 | c2
  · have h := h.1 c2
    have e_19 := (ac (abf (not_f c2)) (ac (olen cEdge Tryz.prog 22 2 listappend.edges (by kernel_rfl)) (olen cSpot Tryz.prog 24 2 listappend.corners (by kernel_rfl))))
    by_cases c3 : ((listappend.corners.length : Nat) : Int) = ((listappend.edges.length : Nat) : Int)
    · have h := h.1 c3
      have g_20 := (abf (bne_f c3))
      exact sl (ts := [1, 2, 6, 7]) (ids := [0]) (d := 0) (s0 := ⟨[(1, int a), (2, .ptr 0 0 0), (6, int ((listappend.edges.length : Nat) : Int)), (7, int 0)], [(0, .box [str listappend.name, .sl 2 (listappend.edges.map cEdge), int listappend.grain, .sl 2 (listappend.notches.map cNotch), .sl 2 (listappend.corners.map cSpot), .sl 1 (listappend.widths.map cI), boo listappend.match_])], 1⟩) (ac e_18 (ac e_19 g_20)) (by kernel_rfl) (by kernel_rfl) (Weak.anew [(0, some 0)] (by rfl) (wt_cons rfl wk_sc (wt_cons rfl (wk_ptr rfl) (wt_cons rfl wk_sc (wt_cons rfl wk_sc wt_nil)))) (wm_box rfl rfl (wl_cons wk_sc (wl_cons wk_sl (wl_cons wk_sc (wl_cons wk_sl (wl_cons wk_sl (wl_cons wk_sl (wl_cons wk_sc wl_nil))))))) wm_nil)) (garmentref21_Graded_W0 listappend a r0 r1 I0 M0 I1 M1 h0 h1 0 h)
    · have h := h.2 c3
      have g_21 := (abt (bne_t c3))
      rw [h.1, h.2]
      exact sr (ids := []) (vs := [.nil, int 1]) (mem := []) (ac e_18 (ac e_19 g_21)) (by kernel_rfl) (by kernel_rfl) (rts_nilfr (rts_sc rfl))
  · have h := h.2 c2
    rw [h.1, h.2]
    exact sr (ids := []) (vs := [.nil, int 3]) (mem := []) (ac e_18 (abt (not_t c2))) (by kernel_rfl) (by kernel_rfl) (rts_nilfr (rts_sc rfl))

-- garmentref21.within
abbrev garmentref21_within_V (n : Int) (limit : Int) (r0 : Bool) : Prop := (InR (-limit)) ∧ ((n ≥ (-limit) → r0 = (decide (n ≤ limit))) ∧ (¬ (n ≥ (-limit)) → r0 = false))
theorem garmentref21_within_W (n : Int) (limit : Int) (r0 : Bool) (h : garmentref21_within_V n limit r0) : Ret Tryz.prog XS 20 [int n, int limit] (boo r0) := by
  refine fn_rule Tryz.func20 (by kernel_rfl) (by kernel_rfl) (by kernel_rfl) (by kernel_rfl) ?_
  obtain ⟨c1, h⟩ := h
  have e_1 := (oneg (wi64 c1))
  by_cases c2 : n ≥ (-limit)
  · have h := h.1 c2
    have g_2 := (abt (dec_t c2))
    rw [h]
    exact sr (ids := []) (vs := [boo (decide (n ≤ limit))]) (mem := []) (ac e_1 (ac g_2 (ac g_2 (ac g_2 g_2)))) (by kernel_rfl) (by kernel_rfl) (rts_sc rfl)
  · have h := h.2 c2
    have g_3 := (abf (dec_f c2))
    rw [h]
    exact sr (ids := []) (vs := [boo false]) (mem := []) (ac e_1 (ac g_3 (ac g_3 (ac g_3 g_3)))) (by kernel_rfl) (by kernel_rfl) (rts_sc rfl)

end Go.Ab
end
