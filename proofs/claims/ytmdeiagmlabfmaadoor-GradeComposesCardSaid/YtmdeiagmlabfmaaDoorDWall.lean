/- A part of the proof. Conditions: those of each theorem. -/
import Derived.Test.YtmdeiagmlabfmaaDoorDTy
import Derived.Test.YtmdeiagmlabfmaaDoorDX
import Derived.Test.YtmdeiagmlabfmaaDoorDWp3
import Derived.Test.YtmdeiagmlabfmaaDoorDWp6
set_option linter.unusedVariables false
set_option linter.unusedSimpArgs false
set_option linter.unusedSectionVars false

section
namespace Go.Ab
open Go.Proofs
set_option maxRecDepth 100000
set_option linter.unusedVariables false
attribute [local irreducible] todoQ
-- polygon.simple
def polygon_simple_S0 (p : List Spot) (sides1 : List PolygonSide) (v12 : Int) : AS := ⟨[(3, .own 0 0 sides1.length), (10, .own 0 0 sides1.length), (11, int ((sides1.length : Nat) : Int)), (12, int v12)], [(0, .row 4 (sides1.map cPolygonSide))], 1⟩
def polygon_simple_S1 (p : List Spot) (sides1 : List PolygonSide) (v12 : Int) (k7 : Int) : AS := ⟨[(3, .own 0 0 sides1.length), (4, int v12), (5, .ptr 1 0 0), (7, int k7), (10, .own 0 0 sides1.length), (11, int ((sides1.length : Nat) : Int)), (12, int v12)], [(0, .row 4 (sides1.map cPolygonSide)), (1, .box [int ((ai sides1 v12).a.x), int ((ai sides1 v12).a.y), int ((ai sides1 v12).b.x), int ((ai sides1 v12).b.y)])], 2⟩
abbrev polygon_simple_V (p : List Spot) (r0 : Bool) (I0 : (List PolygonSide) → Int → Prop) (M0 : (List PolygonSide) → Int → Nat) (I1 : (List PolygonSide) → Int → Int → Prop) (M1 : (List PolygonSide) → Int → Int → Nat) : Prop := (∃ (sides1 : List PolygonSide), Ret Tryd.prog XS 50 [.sl 2 (p.map cSpot)] (.fr 4 (sides1.map cPolygonSide)) ∧ I0 sides1 0)
abbrev polygon_simple_V0 (p : List Spot) (r0 : Bool) (I0 : (List PolygonSide) → Int → Prop) (M0 : (List PolygonSide) → Int → Nat) (I1 : (List PolygonSide) → Int → Int → Prop) (M1 : (List PolygonSide) → Int → Int → Nat) (sides1 : List PolygonSide) (v12 : Int) : Prop := ((v12 < ((sides1.length : Nat) : Int) → (Idx v12 sides1.length) ∧ (((ai sides1 v12).a = (ai sides1 v12).b → r0 = false) ∧ (¬ ((ai sides1 v12).a = (ai sides1 v12).b) → (InR (v12 + 1)) ∧ (((sides1.length : Nat) : Int) ≠ 0) ∧ (Idx ((v12 + 1).tmod ((sides1.length : Nat) : Int)) sides1.length) ∧ (∃ (holds1 : Bool), Ret Tryd.prog XS 53 [.agg [int ((ai sides1 v12).a.x), int ((ai sides1 v12).a.y), int ((ai sides1 v12).b.x), int ((ai sides1 v12).b.y)], .agg [int ((ai sides1 ((v12 + 1).tmod ((sides1.length : Nat) : Int))).b.x), int ((ai sides1 ((v12 + 1).tmod ((sides1.length : Nat) : Int))).b.y)]] (boo holds1) ∧ ((holds1 = true → r0 = false) ∧ (holds1 = false → (∃ (holds2 : Bool), Ret Tryd.prog XS 53 [.agg [int ((ai sides1 ((v12 + 1).tmod ((sides1.length : Nat) : Int))).a.x), int ((ai sides1 ((v12 + 1).tmod ((sides1.length : Nat) : Int))).a.y), int ((ai sides1 ((v12 + 1).tmod ((sides1.length : Nat) : Int))).b.x), int ((ai sides1 ((v12 + 1).tmod ((sides1.length : Nat) : Int))).b.y)], .agg [int ((ai sides1 v12).a.x), int ((ai sides1 v12).a.y)]] (boo holds2) ∧ ((holds2 = true → r0 = false) ∧ (holds2 = false → (InR (v12 + 2)) ∧ I1 sides1 v12 (v12 + 2)))))))))) ∧ (¬ (v12 < ((sides1.length : Nat) : Int)) → r0 = true))
abbrev polygon_simple_V1 (p : List Spot) (r0 : Bool) (I0 : (List PolygonSide) → Int → Prop) (M0 : (List PolygonSide) → Int → Nat) (I1 : (List PolygonSide) → Int → Int → Prop) (M1 : (List PolygonSide) → Int → Int → Nat) (sides1 : List PolygonSide) (v12 : Int) (k7 : Int) : Prop := ((k7 < ((sides1.length : Nat) : Int) → ((v12 = 0 → (InR (((sides1.length : Nat) : Int) - 1)) ∧ ((k7 = (((sides1.length : Nat) : Int) - 1) → (InR (k7 + 1)) ∧ I1 sides1 v12 (k7 + 1) ∧ M1 sides1 v12 (k7 + 1) < M1 sides1 v12 k7) ∧ (¬ (k7 = (((sides1.length : Nat) : Int) - 1)) → (Idx k7 sides1.length) ∧ (∃ (meets1 : Bool), Ret Tryd.prog XS 54 [.agg [int ((ai sides1 v12).a.x), int ((ai sides1 v12).a.y), int ((ai sides1 v12).b.x), int ((ai sides1 v12).b.y)], .agg [int ((ai sides1 k7).a.x), int ((ai sides1 k7).a.y), int ((ai sides1 k7).b.x), int ((ai sides1 k7).b.y)]] (boo meets1) ∧ ((meets1 = true → r0 = false) ∧ (meets1 = false → (InR (k7 + 1)) ∧ I1 sides1 v12 (k7 + 1) ∧ M1 sides1 v12 (k7 + 1) < M1 sides1 v12 k7)))))) ∧ (¬ (v12 = 0) → (Idx k7 sides1.length) ∧ (∃ (meets1 : Bool), Ret Tryd.prog XS 54 [.agg [int ((ai sides1 v12).a.x), int ((ai sides1 v12).a.y), int ((ai sides1 v12).b.x), int ((ai sides1 v12).b.y)], .agg [int ((ai sides1 k7).a.x), int ((ai sides1 k7).a.y), int ((ai sides1 k7).b.x), int ((ai sides1 k7).b.y)]] (boo meets1) ∧ ((meets1 = true → r0 = false) ∧ (meets1 = false → (InR (k7 + 1)) ∧ I1 sides1 v12 (k7 + 1) ∧ M1 sides1 v12 (k7 + 1) < M1 sides1 v12 k7)))))) ∧ (¬ (k7 < ((sides1.length : Nat) : Int)) → (InR (v12 + 1)) ∧ I0 sides1 (v12 + 1) ∧ M0 sides1 (v12 + 1) < M0 sides1 v12))
theorem polygon_simple_W1 (p : List Spot) (r0 : Bool) (I0 : (List PolygonSide) → Int → Prop) (M0 : (List PolygonSide) → Int → Nat) (I1 : (List PolygonSide) → Int → Int → Prop) (M1 : (List PolygonSide) → Int → Int → Nat) (h0 : ∀ (sides1 : List PolygonSide) (v12 : Int), I0 sides1 v12 → polygon_simple_V0 p r0 I0 M0 I1 M1 sides1 v12) (h1 : ∀ (sides1 : List PolygonSide) (v12 : Int) (k7 : Int), I1 sides1 v12 k7 → polygon_simple_V1 p r0 I0 M0 I1 M1 sides1 v12 k7) (sides1 : List PolygonSide) (v12 : Int) : ∀ (x : Int), I1 sides1 v12 x → loopQ Tryd.prog XS Tryd.f47 1 (boo r0) [backI (fun (x : Int) => I0 sides1 x) (fun (x : Int) => M0 sides1 x) (fun (x : Int) => polygon_simple_S0 p sides1 x) v12] (polygon_simple_S1 p sides1 v12 x) := by
  intro x0 hx0
  refine loop_rule (fun (x : Int) => I1 sides1 v12 x) (fun (x : Int) => M1 sides1 v12 x) (fun (x : Int) => polygon_simple_S1 p sides1 v12 x) x0 hx0 ?_
  intro k7 hx
  have h := h1 sides1 v12 k7 hx
  clear hx hx0 x0
  have g_1 := (oleno Tryd.prog 82 0 0 sides1.length sides1.length rfl (by kernel_rfl))
  by_cases c1 : k7 < ((sides1.length : Nat) : Int)
  · have h := h.1 c1
    have g_2 := (abt (dec_t c1))
    by_cases c2 : v12 = 0
    · have h := h.1 c2
      obtain ⟨c3, h⟩ := h
      have g_3 := (abt (beq_t c2))
      have e_4 := (ac g_3 (ac g_3 (ac g_3 (ac g_1 (ac g_3 (ac (osub Tryd.prog 3 (wi64 c3)) (ac g_3 g_3)))))))
      by_cases c4 : k7 = (((sides1.length : Nat) : Int) - 1)
      · have h := h.1 c4
        obtain ⟨c5, h⟩ := h
        exact sb (ts := [3, 4, 5, 7, 10, 11, 12]) (ids := [0, 1]) (d := 0) (s0 := ⟨[(3, .own 0 0 sides1.length), (4, int v12), (5, .ptr 1 0 0), (7, int (k7 + 1)), (10, .own 0 0 sides1.length), (11, int ((sides1.length : Nat) : Int)), (12, int v12)], [(0, .row 4 (sides1.map cPolygonSide)), (1, .box [int ((ai sides1 v12).a.x), int ((ai sides1 v12).a.y), int ((ai sides1 v12).b.x), int ((ai sides1 v12).b.y)])], 2⟩) (ac g_1 (ac g_2 (ac e_4 (ac (abt (beq_t c4)) (oadd Tryd.prog 3 (wi64 c5)))))) (by kernel_rfl) (by kernel_rfl) rfl (k7 + 1) h.1 h.2 (Weak.anew [(0, some 0), (1, some 1)] (by rfl) (wt_cons rfl (wk_own rfl rfl) (wt_cons rfl wk_sc (wt_cons rfl (wk_ptr rfl) (wt_cons rfl wk_sc (wt_cons rfl (wk_own rfl rfl) (wt_cons rfl wk_sc (wt_cons rfl wk_sc wt_nil))))))) (wm_row rfl rfl (wm_box rfl rfl (wl_cons wk_sc (wl_cons wk_sc (wl_cons wk_sc (wl_cons wk_sc wl_nil)))) wm_nil)))
      · have h := h.2 c4
        obtain ⟨c5, meets1, c6, h⟩ := h
        have e_5 := (ac (abf (beq_f c4)) (ac (oown cPolygonSide (n := sides1.length) rfl c5) (ac (orow cPolygonSide c5) (ocs c6))))
        rcases Bool.eq_false_or_eq_true meets1 with c7 | c7
        · have h := h.1 c7
          rw [h]
          exact sr (ids := []) (vs := [boo false]) (mem := []) (ac g_1 (ac g_2 (ac e_4 (ac e_5 (abt c7))))) (by kernel_rfl) (by kernel_rfl) (rts_sc rfl)
        · have h := h.2 c7
          obtain ⟨c8, h⟩ := h
          exact sb (ts := [3, 4, 5, 7, 10, 11, 12]) (ids := [0, 1]) (d := 0) (s0 := ⟨[(3, .own 0 0 sides1.length), (4, int v12), (5, .ptr 1 0 0), (7, int (k7 + 1)), (10, .own 0 0 sides1.length), (11, int ((sides1.length : Nat) : Int)), (12, int v12)], [(0, .row 4 (sides1.map cPolygonSide)), (1, .box [int ((ai sides1 v12).a.x), int ((ai sides1 v12).a.y), int ((ai sides1 v12).b.x), int ((ai sides1 v12).b.y)])], 2⟩) (ac g_1 (ac g_2 (ac e_4 (ac e_5 (ac (abf c7) (oadd Tryd.prog 3 (wi64 c8))))))) (by kernel_rfl) (by kernel_rfl) rfl (k7 + 1) h.1 h.2 (Weak.anew [(0, some 0), (1, some 1)] (by rfl) (wt_cons rfl (wk_own rfl rfl) (wt_cons rfl wk_sc (wt_cons rfl (wk_ptr rfl) (wt_cons rfl wk_sc (wt_cons rfl (wk_own rfl rfl) (wt_cons rfl wk_sc (wt_cons rfl wk_sc wt_nil))))))) (wm_row rfl rfl (wm_box rfl rfl (wl_cons wk_sc (wl_cons wk_sc (wl_cons wk_sc (wl_cons wk_sc wl_nil)))) wm_nil)))
    · have h := h.2 c2
      obtain ⟨c3, meets1, c4, h⟩ := h
      have g_6 := (abf (beq_f c2))
      have e_7 := (ac g_6 (ac g_6 (ac g_6 (ac g_6 (ac g_6 (ac g_6 (ac abff (ac (oown cPolygonSide (n := sides1.length) rfl c3) (ac (orow cPolygonSide c3) (ocs c4))))))))))
      rcases Bool.eq_false_or_eq_true meets1 with c5 | c5
      · have h := h.1 c5
        rw [h]
        exact sr (ids := []) (vs := [boo false]) (mem := []) (ac g_1 (ac g_2 (ac e_7 (abt c5)))) (by kernel_rfl) (by kernel_rfl) (rts_sc rfl)
      · have h := h.2 c5
        obtain ⟨c6, h⟩ := h
        exact sb (ts := [3, 4, 5, 7, 10, 11, 12]) (ids := [0, 1]) (d := 0) (s0 := ⟨[(3, .own 0 0 sides1.length), (4, int v12), (5, .ptr 1 0 0), (7, int (k7 + 1)), (10, .own 0 0 sides1.length), (11, int ((sides1.length : Nat) : Int)), (12, int v12)], [(0, .row 4 (sides1.map cPolygonSide)), (1, .box [int ((ai sides1 v12).a.x), int ((ai sides1 v12).a.y), int ((ai sides1 v12).b.x), int ((ai sides1 v12).b.y)])], 2⟩) (ac g_1 (ac g_2 (ac e_7 (ac (abf c5) (oadd Tryd.prog 3 (wi64 c6)))))) (by kernel_rfl) (by kernel_rfl) rfl (k7 + 1) h.1 h.2 (Weak.anew [(0, some 0), (1, some 1)] (by rfl) (wt_cons rfl (wk_own rfl rfl) (wt_cons rfl wk_sc (wt_cons rfl (wk_ptr rfl) (wt_cons rfl wk_sc (wt_cons rfl (wk_own rfl rfl) (wt_cons rfl wk_sc (wt_cons rfl wk_sc wt_nil))))))) (wm_row rfl rfl (wm_box rfl rfl (wl_cons wk_sc (wl_cons wk_sc (wl_cons wk_sc (wl_cons wk_sc wl_nil)))) wm_nil)))
  · have h := h.2 c1
    obtain ⟨c2, h⟩ := h
    have g_8 := (abf (dec_f c1))
    exact sb (ts := [3, 10, 11, 12]) (ids := [0]) (d := 1) (s0 := ⟨[(3, .own 0 0 sides1.length), (10, .own 0 0 sides1.length), (11, int ((sides1.length : Nat) : Int)), (12, int (v12 + 1))], [(0, .row 4 (sides1.map cPolygonSide))], 2⟩) (ac g_1 (ac g_8 (oadd Tryd.prog 3 (wi64 c2)))) (by kernel_rfl) (by kernel_rfl) rfl (v12 + 1) h.1 h.2 (Weak.anew [(0, some 0)] (by rfl) (wt_cons rfl (wk_own rfl rfl) (wt_cons rfl (wk_own rfl rfl) (wt_cons rfl wk_sc (wt_cons rfl wk_sc wt_nil)))) (wm_row rfl rfl wm_nil))
theorem polygon_simple_W0 (p : List Spot) (r0 : Bool) (I0 : (List PolygonSide) → Int → Prop) (M0 : (List PolygonSide) → Int → Nat) (I1 : (List PolygonSide) → Int → Int → Prop) (M1 : (List PolygonSide) → Int → Int → Nat) (h0 : ∀ (sides1 : List PolygonSide) (v12 : Int), I0 sides1 v12 → polygon_simple_V0 p r0 I0 M0 I1 M1 sides1 v12) (h1 : ∀ (sides1 : List PolygonSide) (v12 : Int) (k7 : Int), I1 sides1 v12 k7 → polygon_simple_V1 p r0 I0 M0 I1 M1 sides1 v12 k7) (sides1 : List PolygonSide) : ∀ (x : Int), I0 sides1 x → loopQ Tryd.prog XS Tryd.f47 0 (boo r0) [] (polygon_simple_S0 p sides1 x) := by
  intro x0 hx0
  refine loop_rule (fun (x : Int) => I0 sides1 x) (fun (x : Int) => M0 sides1 x) (fun (x : Int) => polygon_simple_S0 p sides1 x) x0 hx0 ?_
  intro v12 hx
  have h := h0 sides1 v12 hx
  clear hx hx0 x0
  by_cases c1 : v12 < ((sides1.length : Nat) : Int)
  · have h := h.1 c1
    obtain ⟨c2, h⟩ := h
    have g_9 := (abt (dec_t c1))
    have e_10 := (ac g_9 (ac (oown cPolygonSide (n := sides1.length) rfl c2) (orow cPolygonSide c2)))
    by_cases c3 : (ai sides1 v12).a = (ai sides1 v12).b
    · have h := h.1 c3
      rw [h]
      exact sr (ids := []) (vs := [boo false]) (mem := []) (ac e_10 (abt (sSpot_t c3))) (by kernel_rfl) (by kernel_rfl) (rts_sc rfl)
    · have h := h.2 c3
      obtain ⟨c4, c5, c6, holds1, c7, h⟩ := h
      have g_11 := (oleno Tryd.prog 82 0 0 sides1.length sides1.length rfl (by kernel_rfl))
      have e_12 := (ac (abf (sSpot_f c3)) (ac (oadd Tryd.prog 3 (wi64 c4)) (ac g_11 (ac (orem Tryd.prog 3 .i64 (v12 + 1) ((sides1.length : Nat) : Int) c5) (ac (oown cPolygonSide (n := sides1.length) rfl c6) (ac (orow cPolygonSide c6) (ocs c7)))))))
      rcases Bool.eq_false_or_eq_true holds1 with c8 | c8
      · have h := h.1 c8
        rw [h]
        exact sr (ids := []) (vs := [boo false]) (mem := []) (ac e_10 (ac e_12 (ac (abt c8) (ac (abt c8) (ac (abt c8) (ac (abt c8) (ac (abt c8) abtt))))))) (by kernel_rfl) (by kernel_rfl) (rts_sc rfl)
      · have h := h.2 c8
        obtain ⟨holds2, c9, h⟩ := h
        have e_13 := (ac (abf c8) (ac (abf c8) (ac (abf c8) (ac (abf c8) (ac (ocs c9) (abf c8))))))
        rcases Bool.eq_false_or_eq_true holds2 with c10 | c10
        · have h := h.1 c10
          rw [h]
          exact sr (ids := []) (vs := [boo false]) (mem := []) (ac e_10 (ac e_12 (ac e_13 (abt c10)))) (by kernel_rfl) (by kernel_rfl) (rts_sc rfl)
        · have h := h.2 c10
          obtain ⟨c11, h⟩ := h
          exact sl (ts := [3, 4, 5, 7, 10, 11, 12]) (ids := [0, 1]) (d := 0) (s0 := ⟨[(3, .own 0 0 sides1.length), (4, int v12), (5, .ptr 1 0 0), (7, int (v12 + 2)), (10, .own 0 0 sides1.length), (11, int ((sides1.length : Nat) : Int)), (12, int v12)], [(0, .row 4 (sides1.map cPolygonSide)), (1, .box [int ((ai sides1 v12).a.x), int ((ai sides1 v12).a.y), int ((ai sides1 v12).b.x), int ((ai sides1 v12).b.y)])], 3⟩) (ac e_10 (ac e_12 (ac e_13 (ac (abf c10) (oadd Tryd.prog 3 (wi64 c11)))))) (by kernel_rfl) (by kernel_rfl) (Weak.anew [(0, some 0), (1, some 1)] (by rfl) (wt_cons rfl (wk_own rfl rfl) (wt_cons rfl wk_sc (wt_cons rfl (wk_ptr rfl) (wt_cons rfl wk_sc (wt_cons rfl (wk_own rfl rfl) (wt_cons rfl wk_sc (wt_cons rfl wk_sc wt_nil))))))) (wm_row rfl rfl (wm_box rfl rfl (wl_cons wk_sc (wl_cons wk_sc (wl_cons wk_sc (wl_cons wk_sc wl_nil)))) wm_nil))) (polygon_simple_W1 p r0 I0 M0 I1 M1 h0 h1 sides1 v12 (v12 + 2) h)
  · have h := h.2 c1
    have g_14 := (abf (dec_f c1))
    rw [h]
    exact sr (ids := []) (vs := [boo true]) (mem := []) g_14 (by kernel_rfl) (by kernel_rfl) (rts_sc rfl)
theorem polygon_simple_W (p : List Spot) (r0 : Bool) (I0 : (List PolygonSide) → Int → Prop) (M0 : (List PolygonSide) → Int → Nat) (I1 : (List PolygonSide) → Int → Int → Prop) (M1 : (List PolygonSide) → Int → Int → Nat) (h : polygon_simple_V p r0 I0 M0 I1 M1) (h0 : ∀ (sides1 : List PolygonSide) (v12 : Int), I0 sides1 v12 → polygon_simple_V0 p r0 I0 M0 I1 M1 sides1 v12) (h1 : ∀ (sides1 : List PolygonSide) (v12 : Int) (k7 : Int), I1 sides1 v12 k7 → polygon_simple_V1 p r0 I0 M0 I1 M1 sides1 v12 k7) : Ret Tryd.prog XS 47 [.sl 2 (p.map cSpot)] (boo r0) := by
  refine fn_rule Tryd.func47 (by kernel_rfl) (by kernel_rfl) (by kernel_rfl) (by kernel_rfl) ?_
  obtain ⟨sides1, c1, h⟩ := h
  exact sl (ts := [3, 10, 11, 12]) (ids := [0]) (d := 0) (s0 := ⟨[(3, .own 0 0 ((sides1.map cPolygonSide).length)), (10, .own 0 0 ((sides1.map cPolygonSide).length)), (11, int ((sides1.length : Nat) : Int)), (12, int 0)], [(0, .row 4 (sides1.map cPolygonSide))], 1⟩) (ac (ocs c1) (oleno Tryd.prog 82 0 0 ((sides1.map cPolygonSide).length) sides1.length (List.length_map ..) (by kernel_rfl))) (by kernel_rfl) (by kernel_rfl) (Weak.anew [(0, some 0)] (by rfl) (wt_cons rfl (wk_own rfl (List.length_map ..)) (wt_cons rfl (wk_own rfl (List.length_map ..)) (wt_cons rfl wk_sc (wt_cons rfl wk_sc wt_nil)))) (wm_row rfl rfl wm_nil)) (polygon_simple_W0 p r0 I0 M0 I1 M1 h0 h1 sides1 0 h)

-- polyline.coord
abbrev polyline_coord_V (n : Int) (r0 : Bool) : Prop := ((n ≥ (-1048576) → r0 = (decide (n ≤ 1048576))) ∧ (¬ (n ≥ (-1048576)) → r0 = false))
theorem polyline_coord_W (n : Int) (r0 : Bool) (h : polyline_coord_V n r0) : Ret Tryd.prog XS 48 [int n] (boo r0) := by
  refine fn_rule Tryd.func48 (by kernel_rfl) (by kernel_rfl) (by kernel_rfl) (by kernel_rfl) ?_
  by_cases c1 : n ≥ (-1048576)
  · have h := h.1 c1
    have g_1 := (abt (dec_t c1))
    rw [h]
    exact sr (ids := []) (vs := [boo (decide (n ≤ 1048576))]) (mem := []) (ac g_1 (ac g_1 g_1)) (by kernel_rfl) (by kernel_rfl) (rts_sc rfl)
  · have h := h.2 c1
    have g_2 := (abf (dec_f c1))
    rw [h]
    exact sr (ids := []) (vs := [boo false]) (mem := []) (ac g_2 (ac g_2 g_2)) (by kernel_rfl) (by kernel_rfl) (rts_sc rfl)

-- polygon.sides
def polygon_sides_S0 (p : List Spot) (v11 : Int) (w3 : List PolygonSide) : AS := ⟨[(0, .sl 2 (p.map cSpot)), (3, .own 0 0 w3.length), (9, .sl 2 (p.map cSpot)), (10, int ((p.length : Nat) : Int)), (11, int v11)], [(0, .row 4 (w3.map cPolygonSide))], 1⟩
abbrev polygon_sides_V (p : List Spot) (r0 : List PolygonSide) (I0 : Int → (List PolygonSide) → Prop) (M0 : Int → (List PolygonSide) → Nat) : Prop := (0 ≤ ((p.length : Nat) : Int)) ∧ (((p.length : Nat) : Int) * 32 ≤ 140737488355328) ∧ (((p.length : Nat) : Int) ≤ 9223372036854775807) ∧ I0 0 (List.replicate (((p.length : Nat) : Int) : Int).toNat (⟨(⟨0, 0⟩ : Spot), (⟨0, 0⟩ : Spot)⟩ : PolygonSide))
abbrev polygon_sides_V0 (p : List Spot) (r0 : List PolygonSide) (I0 : Int → (List PolygonSide) → Prop) (M0 : Int → (List PolygonSide) → Nat) (v11 : Int) (w3 : List PolygonSide) : Prop := ((v11 < ((p.length : Nat) : Int) → (Idx v11 p.length) ∧ (InR (v11 + 1)) ∧ (((p.length : Nat) : Int) ≠ 0) ∧ (Idx ((v11 + 1).tmod ((p.length : Nat) : Int)) p.length) ∧ (Idx v11 w3.length) ∧ I0 (v11 + 1) (w3.set (v11 : Int).toNat (⟨(ai p v11), (ai p ((v11 + 1).tmod ((p.length : Nat) : Int)))⟩ : PolygonSide)) ∧ M0 (v11 + 1) (w3.set (v11 : Int).toNat (⟨(ai p v11), (ai p ((v11 + 1).tmod ((p.length : Nat) : Int)))⟩ : PolygonSide)) < M0 v11 w3) ∧ (¬ (v11 < ((p.length : Nat) : Int)) → r0 = w3))
theorem polygon_sides_W0 (p : List Spot) (r0 : List PolygonSide) (I0 : Int → (List PolygonSide) → Prop) (M0 : Int → (List PolygonSide) → Nat) (h0 : ∀ (v11 : Int) (w3 : List PolygonSide), I0 v11 w3 → polygon_sides_V0 p r0 I0 M0 v11 w3) : ∀ (x : Int × (List PolygonSide)), I0 x.1 x.2 → loopQ Tryd.prog XS Tryd.f50 0 (.fr 4 (r0.map cPolygonSide)) [] (polygon_sides_S0 p x.1 x.2) := by
  intro x0 hx0
  refine loop_rule (fun (x : Int × (List PolygonSide)) => I0 x.1 x.2) (fun (x : Int × (List PolygonSide)) => M0 x.1 x.2) (fun (x : Int × (List PolygonSide)) => polygon_sides_S0 p x.1 x.2) x0 hx0 ?_
  rintro ⟨v11, w3⟩ hx
  have h := h0 v11 w3 hx
  clear hx hx0 x0
  by_cases c1 : v11 < ((p.length : Nat) : Int)
  · have h := h.1 c1
    obtain ⟨c2, c3, c4, c5, c6, h⟩ := h
    have g_1 := (oadd Tryd.prog 3 (wi64 c3))
    have g_2 := (olen cSpot Tryd.prog 24 2 p (by kernel_rfl))
    exact sb (ts := [0, 3, 9, 10, 11]) (ids := [0]) (d := 0) (s0 := ⟨[(0, .sl 2 (p.map cSpot)), (3, .own 0 0 w3.length), (9, .sl 2 (p.map cSpot)), (10, int ((p.length : Nat) : Int)), (11, int (v11 + 1))], [(0, .row 4 ((w3.set (v11 : Int).toNat (⟨(ai p v11), (ai p ((v11 + 1).tmod ((p.length : Nat) : Int)))⟩ : PolygonSide)).map cPolygonSide))], 2⟩) (ac (abt (dec_t c1)) (ac (oidx cSpot c2) (ac g_1 (ac g_2 (ac (orem Tryd.prog 3 .i64 (v11 + 1) ((p.length : Nat) : Int) c4) (ac (oidx cSpot c5) (ac (oown cPolygonSide (n := w3.length) rfl c6) (ac (oset cPolygonSide (⟨(ai p v11), (ai p ((v11 + 1).tmod ((p.length : Nat) : Int)))⟩ : PolygonSide) c6) g_1)))))))) (by kernel_rfl) (by kernel_rfl) rfl ((v11 + 1), (w3.set (v11 : Int).toNat (⟨(ai p v11), (ai p ((v11 + 1).tmod ((p.length : Nat) : Int)))⟩ : PolygonSide))) h.1 h.2 (Weak.anew [(0, some 0)] (by rfl) (wt_cons rfl wk_sl (wt_cons rfl (wk_own rfl (by simp)) (wt_cons rfl wk_sl (wt_cons rfl wk_sc (wt_cons rfl wk_sc wt_nil))))) (wm_row rfl rfl wm_nil))
  · have h := h.2 c1
    rw [h]
    exact sr (ids := [0]) (vs := [.own 0 0 w3.length]) (mem := [(0, .row 4 (w3.map cPolygonSide))]) (abf (dec_f c1)) (by kernel_rfl) (by kernel_rfl) (rts_own rfl rfl rfl rfl)
theorem polygon_sides_W (p : List Spot) (r0 : List PolygonSide) (I0 : Int → (List PolygonSide) → Prop) (M0 : Int → (List PolygonSide) → Nat) (h : polygon_sides_V p r0 I0 M0) (h0 : ∀ (v11 : Int) (w3 : List PolygonSide), I0 v11 w3 → polygon_sides_V0 p r0 I0 M0 v11 w3) : Ret Tryd.prog XS 50 [.sl 2 (p.map cSpot)] (.fr 4 (r0.map cPolygonSide)) := by
  refine fn_rule Tryd.func50 (by kernel_rfl) (by kernel_rfl) (by kernel_rfl) (by kernel_rfl) ?_
  obtain ⟨c1, c2, c3, h⟩ := h
  have g_3 := (olen cSpot Tryd.prog 24 2 p (by kernel_rfl))
  exact sl (ts := [0, 3, 9, 10, 11]) (ids := [0]) (d := 0) (s0 := ⟨[(0, .sl 2 (p.map cSpot)), (3, .own 0 0 ((List.replicate (((p.length : Nat) : Int) : Int).toNat (⟨(⟨0, 0⟩ : Spot), (⟨0, 0⟩ : Spot)⟩ : PolygonSide)).length)), (9, .sl 2 (p.map cSpot)), (10, int ((p.length : Nat) : Int)), (11, int 0)], [(0, .row 4 ((List.replicate (((p.length : Nat) : Int) : Int).toNat (⟨(⟨0, 0⟩ : Spot), (⟨0, 0⟩ : Spot)⟩ : PolygonSide)).map cPolygonSide))], 1⟩) (ac g_3 (ac (omake cPolygonSide (v := (⟨(⟨0, 0⟩ : Spot), (⟨0, 0⟩ : Spot)⟩ : PolygonSide)) (z := [int 0, int 0, int 0, int 0]) (l := ((p.length : Nat) : Int)) (b := 32) rfl c1 c2 c3) g_3)) (by kernel_rfl) (by kernel_rfl) (Weak.anew [(0, some 0)] (by rfl) (wt_cons rfl wk_sl (wt_cons rfl (wk_own rfl rfl) (wt_cons rfl wk_sl (wt_cons rfl wk_sc (wt_cons rfl wk_sc wt_nil))))) (wm_row rfl rfl wm_nil)) (polygon_sides_W0 p r0 I0 M0 h0 (0, (List.replicate (((p.length : Nat) : Int) : Int).toNat (⟨(⟨0, 0⟩ : Spot), (⟨0, 0⟩ : Spot)⟩ : PolygonSide))) h)

-- formula.Check
abbrev formula_Check_V (s : ByteArray) (r0 : Int) : Prop := (∃ (check1 : Int), Ret Tryd.prog XS 56 [.agg [int 2, boo false, .sl 1 (([] : List Int).map cU32), .sl 1 (([] : List Int).map cU32), str s, .nil], int 1] (int check1) ∧ r0 = check1)
theorem formula_Check_W (s : ByteArray) (r0 : Int) (h : formula_Check_V s r0) : Ret Tryd.prog XS 51 [.agg [int 2, boo false, .sl 1 (([] : List Int).map cU32), .sl 1 (([] : List Int).map cU32), str s, .nil]] (int r0) := by
  refine fn_rule Tryd.func51 (by kernel_rfl) (by kernel_rfl) (by kernel_rfl) (by kernel_rfl) ?_
  obtain ⟨check1, c1, h⟩ := h
  rw [h]
  exact sr (ids := []) (vs := [int check1]) (mem := []) (ocs c1) (by kernel_rfl) (by kernel_rfl) (rts_sc rfl)

-- slices.IndexFunc[[]api.Edge,api.Edge]
def slices_IndexFunc_api_Edge_api_Edge_S0 (s0 : List Edge) (e1 : Edge) (v8 : Int) : AS := ⟨[(0, .sl 2 (s0.map cEdge)), (1, .fn 45 [] [.ref [str e1.name, .sl 2 (e1.line.map cSpot)]]), (7, int ((s0.length : Nat) : Int)), (8, int v8)], [], 0⟩
abbrev slices_IndexFunc_api_Edge_api_Edge_V (s0 : List Edge) (e1 : Edge) (r0 : Int) (I0 : Int → Prop) (M0 : Int → Nat) : Prop := I0 0
abbrev slices_IndexFunc_api_Edge_api_Edge_V0 (s0 : List Edge) (e1 : Edge) (r0 : Int) (I0 : Int → Prop) (M0 : Int → Nat) (v8 : Int) : Prop := ((v8 < ((s0.length : Nat) : Int) → (Idx v8 s0.length) ∧ (∃ (edges11 : Bool), Ret Tryd.prog XS 45 [.agg [str ((ai s0 v8).name), .sl 2 (((ai s0 v8).line).map cSpot)], .ref [str e1.name, .sl 2 (e1.line.map cSpot)]] (boo edges11) ∧ ((edges11 = true → r0 = v8) ∧ (edges11 = false → (InR (v8 + 1)) ∧ I0 (v8 + 1) ∧ M0 (v8 + 1) < M0 v8)))) ∧ (¬ (v8 < ((s0.length : Nat) : Int)) → r0 = (-1)))
theorem slices_IndexFunc_api_Edge_api_Edge_W0 (s0 : List Edge) (e1 : Edge) (r0 : Int) (I0 : Int → Prop) (M0 : Int → Nat) (h0 : ∀ (v8 : Int), I0 v8 → slices_IndexFunc_api_Edge_api_Edge_V0 s0 e1 r0 I0 M0 v8) : ∀ (x : Int), I0 x → loopQ Tryd.prog XS Tryd.f52 0 (int r0) [] (slices_IndexFunc_api_Edge_api_Edge_S0 s0 e1 x) := by
  intro x0 hx0
  refine loop_rule (fun (x : Int) => I0 x) (fun (x : Int) => M0 x) (fun (x : Int) => slices_IndexFunc_api_Edge_api_Edge_S0 s0 e1 x) x0 hx0 ?_
  intro v8 hx
  have h := h0 v8 hx
  clear hx hx0 x0
  by_cases c1 : v8 < ((s0.length : Nat) : Int)
  · have h := h.1 c1
    obtain ⟨c2, edges11, c3, h⟩ := h
    have e_1 := (ac (abt (dec_t c1)) (ac (oidx cEdge c2) (ocs c3)))
    rcases Bool.eq_false_or_eq_true edges11 with c4 | c4
    · have h := h.1 c4
      rw [h]
      exact sr (ids := []) (vs := [int v8]) (mem := []) (ac e_1 (abt c4)) (by kernel_rfl) (by kernel_rfl) (rts_sc rfl)
    · have h := h.2 c4
      obtain ⟨c5, h⟩ := h
      exact sb (ts := [0, 1, 7, 8]) (ids := []) (d := 0) (s0 := ⟨[(0, .sl 2 (s0.map cEdge)), (1, .fn 45 [] [.ref [str e1.name, .sl 2 (e1.line.map cSpot)]]), (7, int ((s0.length : Nat) : Int)), (8, int (v8 + 1))], [], 0⟩) (ac e_1 (ac (abf c4) (oadd Tryd.prog 3 (wi64 c5)))) (by kernel_rfl) (by kernel_rfl) rfl (v8 + 1) h.1 h.2 (Weak.anew [] (by rfl) (wt_cons rfl wk_sl (wt_cons rfl (wk_fn wl_nil (wl_cons wk_ref wl_nil)) (wt_cons rfl wk_sc (wt_cons rfl wk_sc wt_nil)))) wm_nil)
  · have h := h.2 c1
    rw [h]
    exact sr (ids := []) (vs := [int (-1)]) (mem := []) (abf (dec_f c1)) (by kernel_rfl) (by kernel_rfl) (rts_sc rfl)
theorem slices_IndexFunc_api_Edge_api_Edge_W (s0 : List Edge) (e1 : Edge) (r0 : Int) (I0 : Int → Prop) (M0 : Int → Nat) (h : slices_IndexFunc_api_Edge_api_Edge_V s0 e1 r0 I0 M0) (h0 : ∀ (v8 : Int), I0 v8 → slices_IndexFunc_api_Edge_api_Edge_V0 s0 e1 r0 I0 M0 v8) : Ret Tryd.prog XS 52 [.sl 2 (s0.map cEdge), .fn 45 [] [.ref [str e1.name, .sl 2 (e1.line.map cSpot)]]] (int r0) := by
  refine fn_rule Tryd.func52 (by kernel_rfl) (by kernel_rfl) (by kernel_rfl) (by kernel_rfl) ?_
  exact sl (ts := [0, 1, 7, 8]) (ids := []) (d := 0) (s0 := ⟨[(0, .sl 2 (s0.map cEdge)), (1, .fn 45 [] [.ref [str e1.name, .sl 2 (e1.line.map cSpot)]]), (7, int ((s0.length : Nat) : Int)), (8, int 0)], [], 0⟩) (olen cEdge Tryd.prog 22 2 s0 (by kernel_rfl)) (by kernel_rfl) (by kernel_rfl) (Weak.anew [] (by rfl) (wt_cons rfl wk_sl (wt_cons rfl (wk_fn wl_nil (wl_cons wk_ref wl_nil)) (wt_cons rfl wk_sc (wt_cons rfl wk_sc wt_nil)))) wm_nil) (slices_IndexFunc_api_Edge_api_Edge_W0 s0 e1 r0 I0 M0 h0 0 h)

-- (polygon.side).holds
abbrev polygon_side_holds_V (s0 : PolygonSide) (q : Spot) (r0 : Bool) : Prop := (∃ (turn1 : Int), Ret Tryd.prog XS 57 [.agg [int s0.a.x, int s0.a.y], .agg [int s0.b.x, int s0.b.y], .agg [int q.x, int q.y]] (int turn1) ∧ ((turn1 = 0 → (∃ (within2 : Bool), Ret Tryd.prog XS 58 [int q.x, int s0.a.x, int s0.b.x] (boo within2) ∧ ((within2 = true → (∃ (within3 : Bool), Ret Tryd.prog XS 58 [int q.y, int s0.a.y, int s0.b.y] (boo within3) ∧ r0 = within3)) ∧ (within2 = false → r0 = false)))) ∧ (¬ (turn1 = 0) → r0 = false)))
theorem polygon_side_holds_W (s0 : PolygonSide) (q : Spot) (r0 : Bool) (h : polygon_side_holds_V s0 q r0) : Ret Tryd.prog XS 53 [.agg [int s0.a.x, int s0.a.y, int s0.b.x, int s0.b.y], .agg [int q.x, int q.y]] (boo r0) := by
  refine fn_rule Tryd.func53 (by kernel_rfl) (by kernel_rfl) (by kernel_rfl) (by kernel_rfl) ?_
  obtain ⟨turn1, c1, h⟩ := h
  have e_1 := (ocs c1)
  by_cases c2 : turn1 = 0
  · have h := h.1 c2
    obtain ⟨within2, c3, h⟩ := h
    have g_2 := (abt (beq_t c2))
    have e_3 := (ac g_2 (ac g_2 (ac g_2 (ac g_2 (ac g_2 (ac g_2 (ac g_2 (ac g_2 (ac g_2 (ac (ocs c3) g_2))))))))))
    rcases Bool.eq_false_or_eq_true within2 with c4 | c4
    · have h := h.1 c4
      obtain ⟨within3, c5, h⟩ := h
      rw [h]
      exact sr (ids := []) (vs := [boo within3]) (mem := []) (ac e_1 (ac e_3 (ac (abt c4) (ac (abt c4) (ac (abt c4) (ac (abt c4) (ac (abt c4) (ac (abt c4) (ac (abt c4) (ac (abt c4) (ac (abt c4) (ac (ocs c5) (abt c4))))))))))))) (by kernel_rfl) (by kernel_rfl) (rts_sc rfl)
    · have h := h.2 c4
      rw [h]
      exact sr (ids := []) (vs := [boo false]) (mem := []) (ac e_1 (ac e_3 (ac (abf c4) (ac (abf c4) (ac (abf c4) (ac (abf c4) (ac (abf c4) (ac (abf c4) (ac (abf c4) (ac (abf c4) (ac (abf c4) (abf c4)))))))))))) (by kernel_rfl) (by kernel_rfl) (rts_sc rfl)
  · have h := h.2 c2
    have g_4 := (abf (beq_f c2))
    rw [h]
    exact sr (ids := []) (vs := [boo false]) (mem := []) (ac e_1 (ac g_4 (ac g_4 (ac g_4 (ac g_4 (ac g_4 (ac g_4 (ac g_4 (ac g_4 (ac g_4 (ac g_4 (ac abff (ac abff (ac abff (ac abff (ac abff (ac abff (ac abff (ac abff (ac abff abff)))))))))))))))))))) (by kernel_rfl) (by kernel_rfl) (rts_sc rfl)

end Go.Ab
end

section
namespace Go.Ab
open Go.Proofs
set_option maxRecDepth 100000
set_option linter.unusedVariables false
attribute [local irreducible] todoQ
-- (polygon.side).meets
abbrev polygon_side_meets_V (s0 : PolygonSide) (t1 : PolygonSide) (r0 : Bool) : Prop := (∃ (holds1 : Bool), Ret Tryd.prog XS 53 [.agg [int s0.a.x, int s0.a.y, int s0.b.x, int s0.b.y], .agg [int t1.a.x, int t1.a.y]] (boo holds1) ∧ ((holds1 = true → r0 = true) ∧ (holds1 = false → (∃ (holds2 : Bool), Ret Tryd.prog XS 53 [.agg [int s0.a.x, int s0.a.y, int s0.b.x, int s0.b.y], .agg [int t1.b.x, int t1.b.y]] (boo holds2) ∧ ((holds2 = true → r0 = true) ∧ (holds2 = false → (∃ (holds3 : Bool), Ret Tryd.prog XS 53 [.agg [int t1.a.x, int t1.a.y, int t1.b.x, int t1.b.y], .agg [int s0.a.x, int s0.a.y]] (boo holds3) ∧ ((holds3 = true → r0 = true) ∧ (holds3 = false → (∃ (holds4 : Bool), Ret Tryd.prog XS 53 [.agg [int t1.a.x, int t1.a.y, int t1.b.x, int t1.b.y], .agg [int s0.b.x, int s0.b.y]] (boo holds4) ∧ ((holds4 = true → r0 = true) ∧ (holds4 = false → (∃ (divides5 : Bool), Ret Tryd.prog XS 59 [.agg [int s0.a.x, int s0.a.y, int s0.b.x, int s0.b.y], .agg [int t1.a.x, int t1.a.y], .agg [int t1.b.x, int t1.b.y]] (boo divides5) ∧ ((divides5 = true → (∃ (divides6 : Bool), Ret Tryd.prog XS 59 [.agg [int t1.a.x, int t1.a.y, int t1.b.x, int t1.b.y], .agg [int s0.a.x, int s0.a.y], .agg [int s0.b.x, int s0.b.y]] (boo divides6) ∧ r0 = divides6)) ∧ (divides5 = false → r0 = false)))))))))))))))
theorem polygon_side_meets_W (s0 : PolygonSide) (t1 : PolygonSide) (r0 : Bool) (h : polygon_side_meets_V s0 t1 r0) : Ret Tryd.prog XS 54 [.agg [int s0.a.x, int s0.a.y, int s0.b.x, int s0.b.y], .agg [int t1.a.x, int t1.a.y, int t1.b.x, int t1.b.y]] (boo r0) := by
  refine fn_rule Tryd.func54 (by kernel_rfl) (by kernel_rfl) (by kernel_rfl) (by kernel_rfl) ?_
  obtain ⟨holds1, c1, h⟩ := h
  have e_1 := (ocs c1)
  rcases Bool.eq_false_or_eq_true holds1 with c2 | c2
  · have h := h.1 c2
    rw [h]
    exact sr (ids := []) (vs := [boo true]) (mem := []) (ac e_1 (ac (abt c2) (ac (abt c2) (ac (abt c2) (ac (abt c2) (ac (abt c2) (ac abtt (ac abtt (ac abtt (ac abtt (ac abtt (ac abtt (ac abtt (ac abtt (ac abtt (ac abtt (ac abtt (ac abtt (ac abtt (ac abtt (ac abtt (ac abtt (ac abtt (ac abtt abtt)))))))))))))))))))))))) (by kernel_rfl) (by kernel_rfl) (rts_sc rfl)
  · have h := h.2 c2
    obtain ⟨holds2, c3, h⟩ := h
    have e_2 := (ac (abf c2) (ac (abf c2) (ac (abf c2) (ac (abf c2) (ac (ocs c3) (abf c2))))))
    rcases Bool.eq_false_or_eq_true holds2 with c4 | c4
    · have h := h.1 c4
      rw [h]
      exact sr (ids := []) (vs := [boo true]) (mem := []) (ac e_1 (ac e_2 (ac (abt c4) (ac (abt c4) (ac (abt c4) (ac (abt c4) (ac (abt c4) (ac abtt (ac abtt (ac abtt (ac abtt (ac abtt (ac abtt (ac abtt (ac abtt (ac abtt (ac abtt (ac abtt (ac abtt (ac abtt abtt)))))))))))))))))))) (by kernel_rfl) (by kernel_rfl) (rts_sc rfl)
    · have h := h.2 c4
      obtain ⟨holds3, c5, h⟩ := h
      have e_3 := (ac (abf c4) (ac (abf c4) (ac (abf c4) (ac (abf c4) (ac (ocs c5) (abf c4))))))
      rcases Bool.eq_false_or_eq_true holds3 with c6 | c6
      · have h := h.1 c6
        rw [h]
        exact sr (ids := []) (vs := [boo true]) (mem := []) (ac e_1 (ac e_2 (ac e_3 (ac (abt c6) (ac (abt c6) (ac (abt c6) (ac (abt c6) (ac (abt c6) (ac abtt (ac abtt (ac abtt (ac abtt (ac abtt (ac abtt (ac abtt (ac abtt abtt)))))))))))))))) (by kernel_rfl) (by kernel_rfl) (rts_sc rfl)
      · have h := h.2 c6
        obtain ⟨holds4, c7, h⟩ := h
        have e_4 := (ac (abf c6) (ac (abf c6) (ac (abf c6) (ac (abf c6) (ac (ocs c7) (abf c6))))))
        rcases Bool.eq_false_or_eq_true holds4 with c8 | c8
        · have h := h.1 c8
          rw [h]
          exact sr (ids := []) (vs := [boo true]) (mem := []) (ac e_1 (ac e_2 (ac e_3 (ac e_4 (ac (abt c8) (ac (abt c8) (ac (abt c8) (ac (abt c8) (ac (abt c8) (ac (abt c8) (ac (abt c8) (ac (abt c8) (abt c8))))))))))))) (by kernel_rfl) (by kernel_rfl) (rts_sc rfl)
        · have h := h.2 c8
          obtain ⟨divides5, c9, h⟩ := h
          have e_5 := (ac (abf c8) (ac (abf c8) (ac (abf c8) (ac (abf c8) (ac (abf c8) (ac (abf c8) (ac (ocs c9) (abf c8))))))))
          rcases Bool.eq_false_or_eq_true divides5 with c10 | c10
          · have h := h.1 c10
            obtain ⟨divides6, c11, h⟩ := h
            rw [h]
            exact sr (ids := []) (vs := [boo divides6]) (mem := []) (ac e_1 (ac e_2 (ac e_3 (ac e_4 (ac e_5 (ac (abt c10) (ac (abt c10) (ac (abt c10) (ac (abt c10) (ac (abt c10) (ac (abt c10) (ac (ocs c11) (ac (abf c8) (ac (abt c10) (abf c8))))))))))))))) (by kernel_rfl) (by kernel_rfl) (rts_sc rfl)
          · have h := h.2 c10
            rw [h]
            exact sr (ids := []) (vs := [boo false]) (mem := []) (ac e_1 (ac e_2 (ac e_3 (ac e_4 (ac e_5 (ac (abf c10) (ac (abf c10) (ac (abf c10) (ac (abf c10) (ac (abf c10) (ac (abf c10) (ac (abf c8) (ac (abf c10) (abf c8)))))))))))))) (by kernel_rfl) (by kernel_rfl) (rts_sc rfl)

-- formula.check
def formula_check_S0 (s : ByteArray) (v16 : Int) : AS := ⟨[(1, int 1), (14, .nil), (15, int 0), (16, int v16)], [], 0⟩
abbrev formula_check_V (s : ByteArray) (r0 : Int) (I0 : Int → Prop) (M0 : Int → Nat) : Prop := (∃ (right1 : Bool), Ret Tryd.prog XS 61 [.agg [int 2, boo false, .sl 1 (([] : List Int).map cU32), .sl 1 (([] : List Int).map cU32), str s, .nil]] (boo right1) ∧ ((right1 = true → I0 0) ∧ (right1 = false → r0 = 1)))
abbrev formula_check_V0 (s : ByteArray) (r0 : Int) (I0 : Int → Prop) (M0 : Int → Nat) (v16 : Int) : Prop := ((v16 < 0 → False) ∧ (¬ (v16 < 0) → r0 = 0))
theorem formula_check_W0 (s : ByteArray) (r0 : Int) (I0 : Int → Prop) (M0 : Int → Nat) (h0 : ∀ (v16 : Int), I0 v16 → formula_check_V0 s r0 I0 M0 v16) : ∀ (x : Int), I0 x → loopQ Tryd.prog XS Tryd.f56 0 (int r0) [] (formula_check_S0 s x) := by
  intro x0 hx0
  refine loop_rule (fun (x : Int) => I0 x) (fun (x : Int) => M0 x) (fun (x : Int) => formula_check_S0 s x) x0 hx0 ?_
  intro v16 hx
  have h := h0 v16 hx
  clear hx hx0 x0
  by_cases c1 : v16 < 0
  · have h := h.1 c1
    exact h.elim
  · have h := h.2 c1
    rw [h]
    exact sr (ids := []) (vs := [int 0]) (mem := []) (abf (dec_f c1)) (by kernel_rfl) (by kernel_rfl) (rts_sc rfl)
theorem formula_check_W (s : ByteArray) (r0 : Int) (I0 : Int → Prop) (M0 : Int → Nat) (h : formula_check_V s r0 I0 M0) (h0 : ∀ (v16 : Int), I0 v16 → formula_check_V0 s r0 I0 M0 v16) : Ret Tryd.prog XS 56 [.agg [int 2, boo false, .sl 1 (([] : List Int).map cU32), .sl 1 (([] : List Int).map cU32), str s, .nil], int 1] (int r0) := by
  refine fn_rule Tryd.func56 (by kernel_rfl) (by kernel_rfl) (by kernel_rfl) (by kernel_rfl) ?_
  obtain ⟨right1, c1, h⟩ := h
  have e_1 := (ac abff (ocs c1))
  rcases Bool.eq_false_or_eq_true right1 with c2 | c2
  · have h := h.1 c2
    exact sl (ts := [1, 14, 15, 16]) (ids := []) (d := 0) (s0 := ⟨[(1, int 1), (14, .nil), (15, int 0), (16, int 0)], [], 1⟩) (ac e_1 (abf (not_f c2))) (by kernel_rfl) (by kernel_rfl) (Weak.anew [] (by rfl) (wt_cons rfl wk_sc (wt_cons rfl wk_nil (wt_cons rfl wk_sc (wt_cons rfl wk_sc wt_nil)))) wm_nil) (formula_check_W0 s r0 I0 M0 h0 0 h)
  · have h := h.2 c2
    rw [h]
    exact sr (ids := []) (vs := [int 1]) (mem := []) (ac e_1 (abt (not_t c2))) (by kernel_rfl) (by kernel_rfl) (rts_sc rfl)

-- polygon.turn
abbrev polygon_turn_V (a : Spot) (b : Spot) (c : Spot) (r0 : Int) : Prop := (InR (b.x - a.x)) ∧ (InR (c.y - b.y)) ∧ (InR ((b.x - a.x) * (c.y - b.y))) ∧ (InR (b.y - a.y)) ∧ (InR (c.x - b.x)) ∧ (InR ((b.y - a.y) * (c.x - b.x))) ∧ (InR (((b.x - a.x) * (c.y - b.y)) - ((b.y - a.y) * (c.x - b.x)))) ∧ r0 = (((b.x - a.x) * (c.y - b.y)) - ((b.y - a.y) * (c.x - b.x)))
theorem polygon_turn_W (a : Spot) (b : Spot) (c : Spot) (r0 : Int) (h : polygon_turn_V a b c r0) : Ret Tryd.prog XS 57 [.agg [int a.x, int a.y], .agg [int b.x, int b.y], .agg [int c.x, int c.y]] (int r0) := by
  refine fn_rule Tryd.func57 (by kernel_rfl) (by kernel_rfl) (by kernel_rfl) (by kernel_rfl) ?_
  obtain ⟨c1, c2, c3, c4, c5, c6, c7, h⟩ := h
  rw [h]
  exact sr (ids := []) (vs := [int (((b.x - a.x) * (c.y - b.y)) - ((b.y - a.y) * (c.x - b.x)))]) (mem := []) (ac (osub Tryd.prog 3 (wi64 c1)) (ac (osub Tryd.prog 3 (wi64 c2)) (ac (omul Tryd.prog 3 (wi64 c3)) (ac (osub Tryd.prog 3 (wi64 c4)) (ac (osub Tryd.prog 3 (wi64 c5)) (ac (omul Tryd.prog 3 (wi64 c6)) (osub Tryd.prog 3 (wi64 c7)))))))) (by kernel_rfl) (by kernel_rfl) (rts_sc rfl)

-- polygon.within
abbrev polygon_within_V (n : Int) (a : Int) (b : Int) (r0 : Bool) : Prop := (((min a b) ≤ n → r0 = (decide (n ≤ (max a b)))) ∧ (¬ ((min a b) ≤ n) → r0 = false))
theorem polygon_within_W (n : Int) (a : Int) (b : Int) (r0 : Bool) (h : polygon_within_V n a b r0) : Ret Tryd.prog XS 58 [int n, int a, int b] (boo r0) := by
  refine fn_rule Tryd.func58 (by kernel_rfl) (by kernel_rfl) (by kernel_rfl) (by kernel_rfl) ?_
  have e_1 := (omin .i64 a b)
  by_cases c1 : (min a b) ≤ n
  · have h := h.1 c1
    have g_2 := (abt (dec_t c1))
    rw [h]
    exact sr (ids := []) (vs := [boo (decide (n ≤ (max a b)))]) (mem := []) (ac e_1 (ac g_2 (ac g_2 (ac g_2 (ac g_2 (ac (omax .i64 a b) (ac g_2 g_2))))))) (by kernel_rfl) (by kernel_rfl) (rts_sc rfl)
  · have h := h.2 c1
    have g_3 := (abf (dec_f c1))
    rw [h]
    exact sr (ids := []) (vs := [boo false]) (mem := []) (ac e_1 (ac g_3 (ac g_3 (ac g_3 (ac g_3 (ac g_3 g_3)))))) (by kernel_rfl) (by kernel_rfl) (rts_sc rfl)

-- (polygon.side).divides
abbrev polygon_side_divides_V (s0 : PolygonSide) (p : Spot) (q : Spot) (r0 : Bool) : Prop := (∃ (turn1 : Int), Ret Tryd.prog XS 57 [.agg [int s0.a.x, int s0.a.y], .agg [int s0.b.x, int s0.b.y], .agg [int p.x, int p.y]] (int turn1) ∧ (∃ (turn2 : Int), Ret Tryd.prog XS 57 [.agg [int s0.a.x, int s0.a.y], .agg [int s0.b.x, int s0.b.y], .agg [int q.x, int q.y]] (int turn2) ∧ ((turn1 < 0 → ((turn2 > 0 → r0 = true) ∧ (¬ (turn2 > 0) → ((turn1 > 0 → r0 = (decide (turn2 < 0))) ∧ (¬ (turn1 > 0) → r0 = false))))) ∧ (¬ (turn1 < 0) → ((turn1 > 0 → r0 = (decide (turn2 < 0))) ∧ (¬ (turn1 > 0) → r0 = false))))))
theorem polygon_side_divides_W (s0 : PolygonSide) (p : Spot) (q : Spot) (r0 : Bool) (h : polygon_side_divides_V s0 p q r0) : Ret Tryd.prog XS 59 [.agg [int s0.a.x, int s0.a.y, int s0.b.x, int s0.b.y], .agg [int p.x, int p.y], .agg [int q.x, int q.y]] (boo r0) := by
  refine fn_rule Tryd.func59 (by kernel_rfl) (by kernel_rfl) (by kernel_rfl) (by kernel_rfl) ?_
  obtain ⟨turn1, c1, turn2, c2, h⟩ := h
  have e_1 := (ac (ocs c1) (ocs c2))
  by_cases c3 : turn1 < 0
  · have h := h.1 c3
    have g_2 := (abt (dec_t c3))
    have e_3 := (ac g_2 (ac g_2 g_2))
    by_cases c4 : turn2 > 0
    · have h := h.1 c4
      have g_4 := (abt (dec_t c4))
      rw [h]
      exact sr (ids := []) (vs := [boo true]) (mem := []) (ac e_1 (ac e_3 (ac g_4 (ac g_4 (ac g_4 (ac g_4 g_4)))))) (by kernel_rfl) (by kernel_rfl) (rts_sc rfl)
    · have h := h.2 c4
      have g_5 := (abf (dec_f c4))
      have e_6 := (ac g_5 (ac g_5 g_5))
      by_cases c5 : turn1 > 0
      · have h := h.1 c5
        have g_7 := (abt (dec_t c5))
        rw [h]
        exact sr (ids := []) (vs := [boo (decide (turn2 < 0))]) (mem := []) (ac e_1 (ac e_3 (ac e_6 (ac g_7 (ac g_7 (ac g_5 (ac g_7 g_5))))))) (by kernel_rfl) (by kernel_rfl) (rts_sc rfl)
      · have h := h.2 c5
        have g_8 := (abf (dec_f c5))
        rw [h]
        exact sr (ids := []) (vs := [boo false]) (mem := []) (ac e_1 (ac e_3 (ac e_6 (ac g_8 (ac g_8 (ac g_5 (ac g_8 g_5))))))) (by kernel_rfl) (by kernel_rfl) (rts_sc rfl)
  · have h := h.2 c3
    have g_9 := (abf (dec_f c3))
    have e_10 := (ac g_9 (ac g_9 (ac g_9 (ac abff (ac abff abff)))))
    by_cases c4 : turn1 > 0
    · have h := h.1 c4
      have g_11 := (abt (dec_t c4))
      rw [h]
      exact sr (ids := []) (vs := [boo (decide (turn2 < 0))]) (mem := []) (ac e_1 (ac e_10 (ac g_11 (ac g_11 (ac abff (ac g_11 abff)))))) (by kernel_rfl) (by kernel_rfl) (rts_sc rfl)
    · have h := h.2 c4
      have g_12 := (abf (dec_f c4))
      rw [h]
      exact sr (ids := []) (vs := [boo false]) (mem := []) (ac e_1 (ac e_10 (ac g_12 (ac g_12 (ac abff (ac g_12 abff)))))) (by kernel_rfl) (by kernel_rfl) (rts_sc rfl)

-- formula.right
abbrev formula_right_V (s : ByteArray) (r0 : Bool) : Prop := (Ret Tryd.prog XS 62 [.agg [boo false, .sl 1 (([] : List Int).map cU32), .sl 1 (([] : List Int).map cU32)]] (boo true) ∧ (∃ (name1 : Bool), Ret Tryd.prog XS 63 [str s] (boo name1) ∧ ((name1 = true → r0 = true) ∧ (name1 = false → r0 = false))))
theorem formula_right_W (s : ByteArray) (r0 : Bool) (h : formula_right_V s r0) : Ret Tryd.prog XS 61 [.agg [int 2, boo false, .sl 1 (([] : List Int).map cU32), .sl 1 (([] : List Int).map cU32), str s, .nil]] (boo r0) := by
  refine fn_rule Tryd.func61 (by kernel_rfl) (by kernel_rfl) (by kernel_rfl) (by kernel_rfl) ?_
  obtain ⟨c1, name1, c2, h⟩ := h
  have e_1 := (ac abff (ac abtt (ac abff (ac abff (ac abff (ac abff (ac abff (ac abff (ac abff (ac (ocs c1) (ac abtt (ac (ocs c2) abff))))))))))))
  rcases Bool.eq_false_or_eq_true name1 with c3 | c3
  · have h := h.1 c3
    rw [h]
    exact sr (ids := []) (vs := [boo true]) (mem := []) (ac e_1 (ac (abt c3) (abt c3))) (by kernel_rfl) (by kernel_rfl) (rts_sc rfl)
  · have h := h.2 c3
    rw [h]
    exact sr (ids := []) (vs := [boo false]) (mem := []) (ac e_1 (ac (abf c3) (abf c3))) (by kernel_rfl) (by kernel_rfl) (rts_sc rfl)

-- formula.name
abbrev formula_name_V (s0 : ByteArray) (r0 : Bool) : Prop := ((s0 = ({ data := #[] } : ByteArray) → r0 = false) ∧ (¬ (s0 = ({ data := #[] } : ByteArray)) → ((((s0.size : Nat) : Int) > 24 → r0 = false) ∧ (¬ (((s0.size : Nat) : Int) > 24) → ((s0 = ({ data := #[109, 105, 110] } : ByteArray) → r0 = false) ∧ (¬ (s0 = ({ data := #[109, 105, 110] } : ByteArray)) → ((s0 = ({ data := #[109, 97, 120] } : ByteArray) → r0 = false) ∧ (¬ (s0 = ({ data := #[109, 97, 120] } : ByteArray)) → (Idx 0 s0.size) ∧ (((bt s0 0) < 97 → r0 = false) ∧ (¬ ((bt s0 0) < 97) → (((bt s0 0) > 122 → r0 = false) ∧ (¬ ((bt s0 0) > 122) → (∃ (trim1 : ByteArray), Ret Tryd.prog XS 66 [str s0, str ({ data := #[97, 98, 99, 100, 101, 102, 103, 104, 105, 106, 107, 108, 109, 110, 111, 112, 113, 114, 115, 116, 117, 118, 119, 120, 121, 122, 48, 49, 50, 51, 52, 53, 54, 55, 56, 57, 95] } : ByteArray)] (str trim1) ∧ r0 = (trim1.toList == ({ data := #[] } : ByteArray).toList))))))))))))))
theorem formula_name_W (s0 : ByteArray) (r0 : Bool) (h : formula_name_V s0 r0) : Ret Tryd.prog XS 63 [str s0] (boo r0) := by
  refine fn_rule Tryd.func63 (by kernel_rfl) (by kernel_rfl) (by kernel_rfl) (by kernel_rfl) ?_
  by_cases c1 : s0 = ({ data := #[] } : ByteArray)
  · have h := h.1 c1
    have g_1 := (abt (streq_t c1))
    rw [h]
    exact sr (ids := []) (vs := [boo false]) (mem := []) (ac g_1 (ac g_1 (ac g_1 (ac g_1 (ac abtt (ac abtt (ac abtt (ac abtt (ac abtt (ac abtt (ac abtt (ac abtt (ac abtt (ac abtt (ac abtt (ac abtt (ac abtt (ac abtt abtt)))))))))))))))))) (by kernel_rfl) (by kernel_rfl) (rts_sc rfl)
  · have h := h.2 c1
    have g_2 := (abf (streq_f c1))
    have e_3 := (ac g_2 (ac g_2 (ac (olens Tryd.prog 9 s0 (by kernel_rfl)) (ac g_2 g_2))))
    by_cases c2 : ((s0.size : Nat) : Int) > 24
    · have h := h.1 c2
      have g_4 := (abt (dec_t c2))
      rw [h]
      exact sr (ids := []) (vs := [boo false]) (mem := []) (ac e_3 (ac g_4 (ac g_4 (ac g_4 (ac abtt (ac abtt (ac abtt (ac abtt (ac abtt (ac abtt (ac abtt (ac abtt (ac abtt (ac abtt (ac abtt abtt))))))))))))))) (by kernel_rfl) (by kernel_rfl) (rts_sc rfl)
    · have h := h.2 c2
      have g_5 := (abf (dec_f c2))
      have e_6 := (ac g_5 (ac g_5 g_5))
      by_cases c3 : s0 = ({ data := #[109, 105, 110] } : ByteArray)
      · have h := h.1 c3
        have g_7 := (abt (streq_t c3))
        rw [h]
        exact sr (ids := []) (vs := [boo false]) (mem := []) (ac e_3 (ac e_6 (ac g_7 (ac g_7 (ac g_7 (ac abtt (ac abtt (ac abtt (ac abtt (ac abtt (ac abtt (ac abtt (ac abtt abtt))))))))))))) (by kernel_rfl) (by kernel_rfl) (rts_sc rfl)
      · have h := h.2 c3
        have g_8 := (abf (streq_f c3))
        have e_9 := (ac g_8 (ac g_8 g_8))
        by_cases c4 : s0 = ({ data := #[109, 97, 120] } : ByteArray)
        · have h := h.1 c4
          have g_10 := (abt (streq_t c4))
          rw [h]
          exact sr (ids := []) (vs := [boo false]) (mem := []) (ac e_3 (ac e_6 (ac e_9 (ac g_10 (ac g_10 (ac g_10 (ac g_10 (ac abtt (ac abtt (ac abtt (ac abtt abtt))))))))))) (by kernel_rfl) (by kernel_rfl) (rts_sc rfl)
        · have h := h.2 c4
          obtain ⟨c5, h⟩ := h
          have g_11 := (abf (streq_f c4))
          have e_12 := (ac g_11 (ac g_11 (ac (obtt c5) (ac g_11 g_11))))
          by_cases c6 : (bt s0 0) < 97
          · have h := h.1 c6
            have g_13 := (abt (dec_t c6))
            rw [h]
            exact sr (ids := []) (vs := [boo false]) (mem := []) (ac e_3 (ac e_6 (ac e_9 (ac e_12 (ac g_13 (ac g_13 (ac g_13 (ac g_13 abtt)))))))) (by kernel_rfl) (by kernel_rfl) (rts_sc rfl)
          · have h := h.2 c6
            have g_14 := (abf (dec_f c6))
            have e_15 := (ac g_14 (ac g_14 (ac (obtt c5) (ac g_14 g_14))))
            by_cases c7 : (bt s0 0) > 122
            · have h := h.1 c7
              rw [h]
              exact sr (ids := []) (vs := [boo false]) (mem := []) (ac e_3 (ac e_6 (ac e_9 (ac e_12 (ac e_15 (abt (dec_t c7))))))) (by kernel_rfl) (by kernel_rfl) (rts_sc rfl)
            · have h := h.2 c7
              obtain ⟨trim1, c8, h⟩ := h
              rw [h]
              exact sr (ids := []) (vs := [boo (trim1.toList == ({ data := #[] } : ByteArray).toList)]) (mem := []) (ac e_3 (ac e_6 (ac e_9 (ac e_12 (ac e_15 (ac (abf (dec_f c7)) (ocs c8))))))) (by kernel_rfl) (by kernel_rfl) (rts_sc rfl)

-- strings.Trim
abbrev strings_Trim_V (s0 : ByteArray) (r0 : ByteArray) : Prop := ((s0 = ({ data := #[] } : ByteArray) → r0 = s0) ∧ (¬ (s0 = ({ data := #[] } : ByteArray)) → ((({ data := #[97, 98, 99, 100, 101, 102, 103, 104, 105, 106, 107, 108, 109, 110, 111, 112, 113, 114, 115, 116, 117, 118, 119, 120, 121, 122, 48, 49, 50, 51, 52, 53, 54, 55, 56, 57, 95] } : ByteArray) = ({ data := #[] } : ByteArray) → r0 = s0) ∧ (¬ (({ data := #[97, 98, 99, 100, 101, 102, 103, 104, 105, 106, 107, 108, 109, 110, 111, 112, 113, 114, 115, 116, 117, 118, 119, 120, 121, 122, 48, 49, 50, 51, 52, 53, 54, 55, 56, 57, 95] } : ByteArray) = ({ data := #[] } : ByteArray)) → ((((({ data := #[97, 98, 99, 100, 101, 102, 103, 104, 105, 106, 107, 108, 109, 110, 111, 112, 113, 114, 115, 116, 117, 118, 119, 120, 121, 122, 48, 49, 50, 51, 52, 53, 54, 55, 56, 57, 95] } : ByteArray).size : Nat) : Int) = 1 → (Idx 0 ({ data := #[97, 98, 99, 100, 101, 102, 103, 104, 105, 106, 107, 108, 109, 110, 111, 112, 113, 114, 115, 116, 117, 118, 119, 120, 121, 122, 48, 49, 50, 51, 52, 53, 54, 55, 56, 57, 95] } : ByteArray).size) ∧ (((bt ({ data := #[97, 98, 99, 100, 101, 102, 103, 104, 105, 106, 107, 108, 109, 110, 111, 112, 113, 114, 115, 116, 117, 118, 119, 120, 121, 122, 48, 49, 50, 51, 52, 53, 54, 55, 56, 57, 95] } : ByteArray) 0) < 128 → (∃ (trimRightByte1 : ByteArray), Ret Tryd.prog XS 74 [str s0, .sc (.int .u8 (bt ({ data := #[97, 98, 99, 100, 101, 102, 103, 104, 105, 106, 107, 108, 109, 110, 111, 112, 113, 114, 115, 116, 117, 118, 119, 120, 121, 122, 48, 49, 50, 51, 52, 53, 54, 55, 56, 57, 95] } : ByteArray) 0))] (str trimRightByte1) ∧ (∃ (trimLeftByte2 : ByteArray), Ret Tryd.prog XS 73 [str trimRightByte1, .sc (.int .u8 (bt ({ data := #[97, 98, 99, 100, 101, 102, 103, 104, 105, 106, 107, 108, 109, 110, 111, 112, 113, 114, 115, 116, 117, 118, 119, 120, 121, 122, 48, 49, 50, 51, 52, 53, 54, 55, 56, 57, 95] } : ByteArray) 0))] (str trimLeftByte2) ∧ r0 = trimLeftByte2))) ∧ (¬ ((bt ({ data := #[97, 98, 99, 100, 101, 102, 103, 104, 105, 106, 107, 108, 109, 110, 111, 112, 113, 114, 115, 116, 117, 118, 119, 120, 121, 122, 48, 49, 50, 51, 52, 53, 54, 55, 56, 57, 95] } : ByteArray) 0) < 128) → (Ret Tryd.prog XS 75 [str ({ data := #[97, 98, 99, 100, 101, 102, 103, 104, 105, 106, 107, 108, 109, 110, 111, 112, 113, 114, 115, 116, 117, 118, 119, 120, 121, 122, 48, 49, 50, 51, 52, 53, 54, 55, 56, 57, 95] } : ByteArray)] (.tup [.agg setT, boo true]) ∧ (∃ (trimRightASCII1 : ByteArray), Ret Tryd.prog XS 77 [str s0, .ref setT] (str trimRightASCII1) ∧ (∃ (trimLeftASCII2 : ByteArray), Ret Tryd.prog XS 76 [str trimRightASCII1, .ref setT] (str trimLeftASCII2) ∧ r0 = trimLeftASCII2)))))) ∧ (¬ (((({ data := #[97, 98, 99, 100, 101, 102, 103, 104, 105, 106, 107, 108, 109, 110, 111, 112, 113, 114, 115, 116, 117, 118, 119, 120, 121, 122, 48, 49, 50, 51, 52, 53, 54, 55, 56, 57, 95] } : ByteArray).size : Nat) : Int) = 1) → (Ret Tryd.prog XS 75 [str ({ data := #[97, 98, 99, 100, 101, 102, 103, 104, 105, 106, 107, 108, 109, 110, 111, 112, 113, 114, 115, 116, 117, 118, 119, 120, 121, 122, 48, 49, 50, 51, 52, 53, 54, 55, 56, 57, 95] } : ByteArray)] (.tup [.agg setT, boo true]) ∧ (∃ (trimRightASCII1 : ByteArray), Ret Tryd.prog XS 77 [str s0, .ref setT] (str trimRightASCII1) ∧ (∃ (trimLeftASCII2 : ByteArray), Ret Tryd.prog XS 76 [str trimRightASCII1, .ref setT] (str trimLeftASCII2) ∧ r0 = trimLeftASCII2)))))))))
theorem strings_Trim_W (s0 : ByteArray) (r0 : ByteArray) (h : strings_Trim_V s0 r0) : Ret Tryd.prog XS 66 [str s0, str ({ data := #[97, 98, 99, 100, 101, 102, 103, 104, 105, 106, 107, 108, 109, 110, 111, 112, 113, 114, 115, 116, 117, 118, 119, 120, 121, 122, 48, 49, 50, 51, 52, 53, 54, 55, 56, 57, 95] } : ByteArray)] (str r0) := by
  refine fn_rule Tryd.func66 (by kernel_rfl) (by kernel_rfl) (by kernel_rfl) (by kernel_rfl) ?_
  by_cases c1 : s0 = ({ data := #[] } : ByteArray)
  · have h := h.1 c1
    have g_1 := (abt (streq_t c1))
    rw [h]
    exact sr (ids := []) (vs := [str s0]) (mem := []) (ac g_1 (ac g_1 (ac g_1 abtt))) (by kernel_rfl) (by kernel_rfl) (rts_sc rfl)
  · have h := h.2 c1
    have g_2 := (abf (streq_f c1))
    have e_3 := (ac g_2 (ac g_2 g_2))
    by_cases c2 : ({ data := #[97, 98, 99, 100, 101, 102, 103, 104, 105, 106, 107, 108, 109, 110, 111, 112, 113, 114, 115, 116, 117, 118, 119, 120, 121, 122, 48, 49, 50, 51, 52, 53, 54, 55, 56, 57, 95] } : ByteArray) = ({ data := #[] } : ByteArray)
    · have h := h.1 c2
      rw [h]
      exact sr (ids := []) (vs := [str s0]) (mem := []) (ac e_3 (abt (streq_t c2))) (by kernel_rfl) (by kernel_rfl) (rts_sc rfl)
    · have h := h.2 c2
      have e_4 := (ac (abf (streq_f c2)) (olens Tryd.prog 9 ({ data := #[97, 98, 99, 100, 101, 102, 103, 104, 105, 106, 107, 108, 109, 110, 111, 112, 113, 114, 115, 116, 117, 118, 119, 120, 121, 122, 48, 49, 50, 51, 52, 53, 54, 55, 56, 57, 95] } : ByteArray) (by kernel_rfl)))
      by_cases c3 : ((({ data := #[97, 98, 99, 100, 101, 102, 103, 104, 105, 106, 107, 108, 109, 110, 111, 112, 113, 114, 115, 116, 117, 118, 119, 120, 121, 122, 48, 49, 50, 51, 52, 53, 54, 55, 56, 57, 95] } : ByteArray).size : Nat) : Int) = 1
      · have h := h.1 c3
        obtain ⟨c4, h⟩ := h
        have g_5 := (abt (beq_t c3))
        have e_6 := (ac g_5 (ac g_5 (ac (obtt c4) (ac g_5 g_5))))
        by_cases c5 : (bt ({ data := #[97, 98, 99, 100, 101, 102, 103, 104, 105, 106, 107, 108, 109, 110, 111, 112, 113, 114, 115, 116, 117, 118, 119, 120, 121, 122, 48, 49, 50, 51, 52, 53, 54, 55, 56, 57, 95] } : ByteArray) 0) < 128
        · have h := h.1 c5
          obtain ⟨trimRightByte1, c6, trimLeftByte2, c7, h⟩ := h
          rw [h]
          exact sr (ids := []) (vs := [str trimLeftByte2]) (mem := []) (ac e_3 (ac e_4 (ac e_6 (ac (abt (dec_t c5)) (ac (obtt c4) (ac (ocs c6) (ac (obtt c4) (ocs c7)))))))) (by kernel_rfl) (by kernel_rfl) (rts_sc rfl)
        · have h := h.2 c5
          obtain ⟨c6, trimRightASCII1, c7, trimLeftASCII2, c8, h⟩ := h
          rw [h]
          exact sr (ids := []) (vs := [str trimLeftASCII2]) (mem := []) (ac e_3 (ac e_4 (ac e_6 (ac (abf (dec_f c5)) (ac (ocs c6) (ac abtt (ac (ocl [0] [(0, .box setT)] [str s0, .ptr 0 0 0] (as_cons (ArgTo.same rfl) (as_cons (at_ptr rfl (sames_to (by kernel_rfl))) as_nil)) c7) (ocl [0] [(0, .box setT)] [str trimRightASCII1, .ptr 0 0 0] (as_cons (ArgTo.same rfl) (as_cons (at_ptr rfl (sames_to (by kernel_rfl))) as_nil)) c8)))))))) (by kernel_rfl) (by kernel_rfl) (rts_sc rfl)
      · have h := h.2 c3
        obtain ⟨c4, trimRightASCII1, c5, trimLeftASCII2, c6, h⟩ := h
        have g_7 := (abf (beq_f c3))
        rw [h]
        exact sr (ids := []) (vs := [str trimLeftASCII2]) (mem := []) (ac e_3 (ac e_4 (ac g_7 (ac g_7 (ac g_7 (ac g_7 (ac abff (ac (ocs c4) (ac abtt (ac (ocl [0] [(0, .box setT)] [str s0, .ptr 0 0 0] (as_cons (ArgTo.same rfl) (as_cons (at_ptr rfl (sames_to (by kernel_rfl))) as_nil)) c5) (ocl [0] [(0, .box setT)] [str trimRightASCII1, .ptr 0 0 0] (as_cons (ArgTo.same rfl) (as_cons (at_ptr rfl (sames_to (by kernel_rfl))) as_nil)) c6))))))))))) (by kernel_rfl) (by kernel_rfl) (rts_sc rfl)

-- strings.trimLeftASCII
def strings_trimLeftASCII_S0 (s0 : ByteArray) (s0' : ByteArray) : AS := ⟨[(0, str s0'), (1, .ref setT)], [], 0⟩
abbrev strings_trimLeftASCII_V (s0 : ByteArray) (r0 : ByteArray) (I0 : ByteArray → Prop) (M0 : ByteArray → Nat) : Prop := I0 s0
abbrev strings_trimLeftASCII_V0 (s0 : ByteArray) (r0 : ByteArray) (I0 : ByteArray → Prop) (M0 : ByteArray → Nat) (s0' : ByteArray) : Prop := ((((s0'.size : Nat) : Int) > 0 → (Idx 0 s0'.size) ∧ (∃ (contains1 : Bool), Ret Tryd.prog XS 89 [.ref setT, .sc (.int .u8 (bt s0' 0))] (boo contains1) ∧ ((contains1 = true → (Slc 1 ((s0'.size : Nat) : Int) s0'.size) ∧ I0 (s0'.extract (1 : Int).toNat (((s0'.size : Nat) : Int) : Int).toNat) ∧ M0 (s0'.extract (1 : Int).toNat (((s0'.size : Nat) : Int) : Int).toNat) < M0 s0') ∧ (contains1 = false → r0 = s0')))) ∧ (¬ (((s0'.size : Nat) : Int) > 0) → r0 = s0'))
theorem strings_trimLeftASCII_W0 (s0 : ByteArray) (r0 : ByteArray) (I0 : ByteArray → Prop) (M0 : ByteArray → Nat) (h0 : ∀ (s0' : ByteArray), I0 s0' → strings_trimLeftASCII_V0 s0 r0 I0 M0 s0') : ∀ (x : ByteArray), I0 x → loopQ Tryd.prog XS Tryd.f76 0 (str r0) [] (strings_trimLeftASCII_S0 s0 x) := by
  intro x0 hx0
  refine loop_rule (fun (x : ByteArray) => I0 x) (fun (x : ByteArray) => M0 x) (fun (x : ByteArray) => strings_trimLeftASCII_S0 s0 x) x0 hx0 ?_
  intro s0' hx
  have h := h0 s0' hx
  clear hx hx0 x0
  have e_1 := (olens Tryd.prog 9 s0' (by kernel_rfl))
  by_cases c1 : ((s0'.size : Nat) : Int) > 0
  · have h := h.1 c1
    obtain ⟨c2, contains1, c3, h⟩ := h
    have e_2 := (ac (abt (dec_t c1)) (ac (obtt c2) (ocs c3)))
    rcases Bool.eq_false_or_eq_true contains1 with c4 | c4
    · have h := h.1 c4
      obtain ⟨c5, h⟩ := h
      exact sb (ts := [0, 1]) (ids := []) (d := 0) (s0 := ⟨[(0, str (s0'.extract (1 : Int).toNat (((s0'.size : Nat) : Int) : Int).toNat)), (1, .ref setT)], [], 0⟩) (ac e_1 (ac e_2 (ac (abf (not_f c4)) (At.mk (allc (ob_scut c5) alln) : At [.val (str (s0'.extract (1 : Int).toNat (((s0'.size : Nat) : Int) : Int).toNat))] [(0 : Int) ≤ 1 ∧ 1 ≤ ((s0'.size : Nat) : Int) ∧ ((s0'.size : Nat) : Int) ≤ ((s0'.size : Nat) : Int) ∧ (s0'.extract (1 : Int).toNat (((s0'.size : Nat) : Int) : Int).toNat) = (s0'.extract (1 : Int).toNat (((s0'.size : Nat) : Int) : Int).toNat)])))) (by kernel_rfl) (by kernel_rfl) rfl (s0'.extract (1 : Int).toNat (((s0'.size : Nat) : Int) : Int).toNat) h.1 h.2 (Weak.anew [] (by rfl) (wt_cons rfl wk_sc (wt_cons rfl wk_ref wt_nil)) wm_nil)
    · have h := h.2 c4
      rw [h]
      exact sr (ids := []) (vs := [str s0']) (mem := []) (ac e_1 (ac e_2 (abt (not_t c4)))) (by kernel_rfl) (by kernel_rfl) (rts_sc rfl)
  · have h := h.2 c1
    rw [h]
    exact sr (ids := []) (vs := [str s0']) (mem := []) (ac e_1 (abf (dec_f c1))) (by kernel_rfl) (by kernel_rfl) (rts_sc rfl)
theorem strings_trimLeftASCII_W (s0 : ByteArray) (r0 : ByteArray) (I0 : ByteArray → Prop) (M0 : ByteArray → Nat) (h : strings_trimLeftASCII_V s0 r0 I0 M0) (h0 : ∀ (s0' : ByteArray), I0 s0' → strings_trimLeftASCII_V0 s0 r0 I0 M0 s0') : Ret Tryd.prog XS 76 [str s0, .ref setT] (str r0) := by
  refine fn_rule Tryd.func76 (by kernel_rfl) (by kernel_rfl) (by kernel_rfl) (by kernel_rfl) ?_
  exact sl (ts := [0, 1]) (ids := []) (d := 0) (s0 := ⟨[(0, str s0), (1, .ref setT)], [], 0⟩) az (by kernel_rfl) (by kernel_rfl) (Weak.anew [] (by rfl) (wt_cons rfl wk_sc (wt_cons rfl wk_ref wt_nil)) wm_nil) (strings_trimLeftASCII_W0 s0 r0 I0 M0 h0 s0 h)

end Go.Ab
end

section
namespace Go.Ab
open Go.Proofs
set_option maxRecDepth 100000
set_option linter.unusedVariables false
attribute [local irreducible] todoQ
-- strings.trimRightASCII
def strings_trimRightASCII_S0 (s0 : ByteArray) (s0' : ByteArray) : AS := ⟨[(0, str s0'), (1, .ref setT)], [], 0⟩
abbrev strings_trimRightASCII_V (s0 : ByteArray) (r0 : ByteArray) (I0 : ByteArray → Prop) (M0 : ByteArray → Nat) : Prop := I0 s0
abbrev strings_trimRightASCII_V0 (s0 : ByteArray) (r0 : ByteArray) (I0 : ByteArray → Prop) (M0 : ByteArray → Nat) (s0' : ByteArray) : Prop := ((((s0'.size : Nat) : Int) > 0 → (InR (((s0'.size : Nat) : Int) - 1)) ∧ (Idx (((s0'.size : Nat) : Int) - 1) s0'.size) ∧ (∃ (contains1 : Bool), Ret Tryd.prog XS 89 [.ref setT, .sc (.int .u8 (bt s0' (((s0'.size : Nat) : Int) - 1)))] (boo contains1) ∧ ((contains1 = true → (Slc 0 (((s0'.size : Nat) : Int) - 1) s0'.size) ∧ I0 (s0'.extract (((0 : Nat) : Int) : Int).toNat ((((s0'.size : Nat) : Int) - 1) : Int).toNat) ∧ M0 (s0'.extract (((0 : Nat) : Int) : Int).toNat ((((s0'.size : Nat) : Int) - 1) : Int).toNat) < M0 s0') ∧ (contains1 = false → r0 = s0')))) ∧ (¬ (((s0'.size : Nat) : Int) > 0) → r0 = s0'))
theorem strings_trimRightASCII_W0 (s0 : ByteArray) (r0 : ByteArray) (I0 : ByteArray → Prop) (M0 : ByteArray → Nat) (h0 : ∀ (s0' : ByteArray), I0 s0' → strings_trimRightASCII_V0 s0 r0 I0 M0 s0') : ∀ (x : ByteArray), I0 x → loopQ Tryd.prog XS Tryd.f77 0 (str r0) [] (strings_trimRightASCII_S0 s0 x) := by
  intro x0 hx0
  refine loop_rule (fun (x : ByteArray) => I0 x) (fun (x : ByteArray) => M0 x) (fun (x : ByteArray) => strings_trimRightASCII_S0 s0 x) x0 hx0 ?_
  intro s0' hx
  have h := h0 s0' hx
  clear hx hx0 x0
  have g_1 := (olens Tryd.prog 9 s0' (by kernel_rfl))
  by_cases c1 : ((s0'.size : Nat) : Int) > 0
  · have h := h.1 c1
    obtain ⟨c2, c3, contains1, c4, h⟩ := h
    have g_2 := (osub Tryd.prog 3 (wi64 c2))
    have e_3 := (ac (abt (dec_t c1)) (ac g_1 (ac g_2 (ac (obtt c3) (ocs c4)))))
    rcases Bool.eq_false_or_eq_true contains1 with c5 | c5
    · have h := h.1 c5
      obtain ⟨c6, h⟩ := h
      exact sb (ts := [0, 1]) (ids := []) (d := 0) (s0 := ⟨[(0, str (s0'.extract (((0 : Nat) : Int) : Int).toNat ((((s0'.size : Nat) : Int) - 1) : Int).toNat)), (1, .ref setT)], [], 0⟩) (ac g_1 (ac e_3 (ac (abf (not_f c5)) (ac g_1 (ac g_2 (At.mk (allc (ob_scut c6) alln) : At [.val (str (s0'.extract (((0 : Nat) : Int) : Int).toNat ((((s0'.size : Nat) : Int) - 1) : Int).toNat))] [(0 : Int) ≤ ((0 : Nat) : Int) ∧ ((0 : Nat) : Int) ≤ (((s0'.size : Nat) : Int) - 1) ∧ (((s0'.size : Nat) : Int) - 1) ≤ ((s0'.size : Nat) : Int) ∧ (s0'.extract (((0 : Nat) : Int) : Int).toNat ((((s0'.size : Nat) : Int) - 1) : Int).toNat) = (s0'.extract (((0 : Nat) : Int) : Int).toNat ((((s0'.size : Nat) : Int) - 1) : Int).toNat)])))))) (by kernel_rfl) (by kernel_rfl) rfl (s0'.extract (((0 : Nat) : Int) : Int).toNat ((((s0'.size : Nat) : Int) - 1) : Int).toNat) h.1 h.2 (Weak.anew [] (by rfl) (wt_cons rfl wk_sc (wt_cons rfl wk_ref wt_nil)) wm_nil)
    · have h := h.2 c5
      rw [h]
      exact sr (ids := []) (vs := [str s0']) (mem := []) (ac g_1 (ac e_3 (abt (not_t c5)))) (by kernel_rfl) (by kernel_rfl) (rts_sc rfl)
  · have h := h.2 c1
    rw [h]
    exact sr (ids := []) (vs := [str s0']) (mem := []) (ac g_1 (abf (dec_f c1))) (by kernel_rfl) (by kernel_rfl) (rts_sc rfl)
theorem strings_trimRightASCII_W (s0 : ByteArray) (r0 : ByteArray) (I0 : ByteArray → Prop) (M0 : ByteArray → Nat) (h : strings_trimRightASCII_V s0 r0 I0 M0) (h0 : ∀ (s0' : ByteArray), I0 s0' → strings_trimRightASCII_V0 s0 r0 I0 M0 s0') : Ret Tryd.prog XS 77 [str s0, .ref setT] (str r0) := by
  refine fn_rule Tryd.func77 (by kernel_rfl) (by kernel_rfl) (by kernel_rfl) (by kernel_rfl) ?_
  exact sl (ts := [0, 1]) (ids := []) (d := 0) (s0 := ⟨[(0, str s0), (1, .ref setT)], [], 0⟩) az (by kernel_rfl) (by kernel_rfl) (Weak.anew [] (by rfl) (wt_cons rfl wk_sc (wt_cons rfl wk_ref wt_nil)) wm_nil) (strings_trimRightASCII_W0 s0 r0 I0 M0 h0 s0 h)
end Go.Ab
end
