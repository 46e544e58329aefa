/- A part of the proof. Conditions: those of each theorem. -/
import Derived.Test.YtjbodjmkfklleaaDoorETy
import Derived.Test.YtjbodjmkfklleaaDoorEX
import Derived.Test.YtjbodjmkfklleaaDoorEWp6
import Derived.Test.YtjbodjmkfklleaaDoorEWp8
set_option linter.unusedVariables false
set_option linter.unusedSimpArgs false
set_option linter.unusedSectionVars false

section
namespace Go.Ab
open Go.Proofs
set_option maxRecDepth 1000000
set_option linter.unusedVariables false
attribute [local irreducible] todoQ
-- polygon.inside
abbrev polygon_inside_V (n : Int) (r0 : Bool) : Prop := ((n ≥ (-1048576) → r0 = (decide (n ≤ 1048576))) ∧ (¬ (n ≥ (-1048576)) → r0 = false))
theorem polygon_inside_W (n : Int) (r0 : Bool) (h : polygon_inside_V n r0) : Ret Tryd.prog XS 51 [int n] (boo r0) := by
  refine fn_rule Tryd.func51 (by kernel_rfl) (by kernel_rfl) (by kernel_rfl) (by kernel_rfl) ?_
  by_cases c1 : n ≥ (-1048576)
  · have h := h.1 c1
    have g_1 := (abt (dec_t c1))
    rw [h]
    exact sr (ids := []) (vs := [boo (decide (n ≤ 1048576))]) (mem := []) (d11 g_1 (d11 g_1 (d11 g_1 az))) (by kernel_rfl) (by kernel_rfl) (rts_sc rfl)
  · have h := h.2 c1
    have g_2 := (abf (dec_f c1))
    rw [h]
    exact sr (ids := []) (vs := [boo false]) (mem := []) (d11 g_2 (d11 g_2 (d11 g_2 az))) (by kernel_rfl) (by kernel_rfl) (rts_sc rfl)

-- polygon.simple
def polygon_simple_S0 (p : List Spot) (sides1 : List PolygonSide) (v12 : Int) : AS := ⟨[(3, .own 0 0 sides1.length), (10, .own 0 0 sides1.length), (11, int ((sides1.length : Nat) : Int)), (12, int v12)], [(0, .row 4 (sides1.map cPolygonSide))], 1⟩
def polygon_simple_S1 (p : List Spot) (sides1 : List PolygonSide) (v12 : Int) (k7 : Int) : AS := ⟨[(3, .own 0 0 sides1.length), (4, int v12), (5, .ptr 1 0 0), (7, int k7), (10, .own 0 0 sides1.length), (11, int ((sides1.length : Nat) : Int)), (12, int v12)], [(0, .row 4 (sides1.map cPolygonSide)), (1, .box [int ((ai sides1 v12).a.x), int ((ai sides1 v12).a.y), int ((ai sides1 v12).b.x), int ((ai sides1 v12).b.y)])], 2⟩
abbrev polygon_simple_V (p : List Spot) (r0 : Bool) (I0 : (List PolygonSide) → Int → Prop) (M0 : (List PolygonSide) → Int → Nat) (I1 : (List PolygonSide) → Int → Int → Prop) (M1 : (List PolygonSide) → Int → Int → Nat) : Prop := (∃ (sides1 : List PolygonSide), Ret Tryd.prog XS 56 [.sl 2 (p.map cSpot)] (.fr 4 (sides1.map cPolygonSide)) ∧ I0 sides1 0)
abbrev polygon_simple_V0 (p : List Spot) (r0 : Bool) (I0 : (List PolygonSide) → Int → Prop) (M0 : (List PolygonSide) → Int → Nat) (I1 : (List PolygonSide) → Int → Int → Prop) (M1 : (List PolygonSide) → Int → Int → Nat) (sides1 : List PolygonSide) (v12 : Int) : Prop := ((v12 < ((sides1.length : Nat) : Int) → (Idx v12 sides1.length) ∧ (((ai sides1 v12).a = (ai sides1 v12).b → r0 = false) ∧ (¬ ((ai sides1 v12).a = (ai sides1 v12).b) → (InR (v12 + 1)) ∧ (((sides1.length : Nat) : Int) ≠ 0) ∧ (Idx ((v12 + 1).tmod ((sides1.length : Nat) : Int)) sides1.length) ∧ (∃ (holds1 : Bool), Ret Tryd.prog XS 57 [.agg [int ((ai sides1 v12).a.x), int ((ai sides1 v12).a.y), int ((ai sides1 v12).b.x), int ((ai sides1 v12).b.y)], .agg [int ((ai sides1 ((v12 + 1).tmod ((sides1.length : Nat) : Int))).b.x), int ((ai sides1 ((v12 + 1).tmod ((sides1.length : Nat) : Int))).b.y)]] (boo holds1) ∧ ((holds1 = true → r0 = false) ∧ (holds1 = false → (∃ (holds2 : Bool), Ret Tryd.prog XS 57 [.agg [int ((ai sides1 ((v12 + 1).tmod ((sides1.length : Nat) : Int))).a.x), int ((ai sides1 ((v12 + 1).tmod ((sides1.length : Nat) : Int))).a.y), int ((ai sides1 ((v12 + 1).tmod ((sides1.length : Nat) : Int))).b.x), int ((ai sides1 ((v12 + 1).tmod ((sides1.length : Nat) : Int))).b.y)], .agg [int ((ai sides1 v12).a.x), int ((ai sides1 v12).a.y)]] (boo holds2) ∧ ((holds2 = true → r0 = false) ∧ (holds2 = false → (InR (v12 + 2)) ∧ I1 sides1 v12 (v12 + 2)))))))))) ∧ (¬ (v12 < ((sides1.length : Nat) : Int)) → r0 = true))
abbrev polygon_simple_V1 (p : List Spot) (r0 : Bool) (I0 : (List PolygonSide) → Int → Prop) (M0 : (List PolygonSide) → Int → Nat) (I1 : (List PolygonSide) → Int → Int → Prop) (M1 : (List PolygonSide) → Int → Int → Nat) (sides1 : List PolygonSide) (v12 : Int) (k7 : Int) : Prop := ((k7 < ((sides1.length : Nat) : Int) → ((v12 = 0 → (InR (((sides1.length : Nat) : Int) - 1)) ∧ ((k7 = (((sides1.length : Nat) : Int) - 1) → (InR (k7 + 1)) ∧ I1 sides1 v12 (k7 + 1) ∧ M1 sides1 v12 (k7 + 1) < M1 sides1 v12 k7) ∧ (¬ (k7 = (((sides1.length : Nat) : Int) - 1)) → (Idx k7 sides1.length) ∧ (∃ (meets1 : Bool), Ret Tryd.prog XS 58 [.agg [int ((ai sides1 v12).a.x), int ((ai sides1 v12).a.y), int ((ai sides1 v12).b.x), int ((ai sides1 v12).b.y)], .agg [int ((ai sides1 k7).a.x), int ((ai sides1 k7).a.y), int ((ai sides1 k7).b.x), int ((ai sides1 k7).b.y)]] (boo meets1) ∧ ((meets1 = true → r0 = false) ∧ (meets1 = false → (InR (k7 + 1)) ∧ I1 sides1 v12 (k7 + 1) ∧ M1 sides1 v12 (k7 + 1) < M1 sides1 v12 k7)))))) ∧ (¬ (v12 = 0) → (Idx k7 sides1.length) ∧ (∃ (meets1 : Bool), Ret Tryd.prog XS 58 [.agg [int ((ai sides1 v12).a.x), int ((ai sides1 v12).a.y), int ((ai sides1 v12).b.x), int ((ai sides1 v12).b.y)], .agg [int ((ai sides1 k7).a.x), int ((ai sides1 k7).a.y), int ((ai sides1 k7).b.x), int ((ai sides1 k7).b.y)]] (boo meets1) ∧ ((meets1 = true → r0 = false) ∧ (meets1 = false → (InR (k7 + 1)) ∧ I1 sides1 v12 (k7 + 1) ∧ M1 sides1 v12 (k7 + 1) < M1 sides1 v12 k7)))))) ∧ (¬ (k7 < ((sides1.length : Nat) : Int)) → (InR (v12 + 1)) ∧ I0 sides1 (v12 + 1) ∧ M0 sides1 (v12 + 1) < M0 sides1 v12))
theorem polygon_simple_W1 (p : List Spot) (r0 : Bool) (I0 : (List PolygonSide) → Int → Prop) (M0 : (List PolygonSide) → Int → Nat) (I1 : (List PolygonSide) → Int → Int → Prop) (M1 : (List PolygonSide) → Int → Int → Nat) (h0 : ∀ (sides1 : List PolygonSide) (v12 : Int), I0 sides1 v12 → polygon_simple_V0 p r0 I0 M0 I1 M1 sides1 v12) (h1 : ∀ (sides1 : List PolygonSide) (v12 : Int) (k7 : Int), I1 sides1 v12 k7 → polygon_simple_V1 p r0 I0 M0 I1 M1 sides1 v12 k7) (sides1 : List PolygonSide) (v12 : Int) : ∀ (x : Int), I1 sides1 v12 x → loopQ Tryd.prog XS Tryd.f52 1 (boo r0) [backI (fun (x : Int) => I0 sides1 x) (fun (x : Int) => M0 sides1 x) (fun (x : Int) => polygon_simple_S0 p sides1 x) v12] (polygon_simple_S1 p sides1 v12 x) := by
  intro x0 hx0
  refine loop_rule (fun (x : Int) => I1 sides1 v12 x) (fun (x : Int) => M1 sides1 v12 x) (fun (x : Int) => polygon_simple_S1 p sides1 v12 x) x0 hx0 ?_
  intro k7 hx
  have h := h1 sides1 v12 k7 hx
  clear hx hx0 x0
  have g_1 := (oleno Tryd.prog 116 0 0 sides1.length sides1.length rfl (by kernel_rfl))
  by_cases c1 : k7 < ((sides1.length : Nat) : Int)
  · have h := h.1 c1
    have g_2 := (abt (dec_t c1))
    by_cases c2 : v12 = 0
    · have h := h.1 c2
      obtain ⟨c3, h⟩ := h
      have g_3 := (abt (beq_t c2))
      have e_4 := fun {o : Orc} {q : List Prop} (r : At o q) => (d11 g_3 (d11 g_3 (d11 g_3 (d11 g_1 (d11 g_3 (d11 (osub Tryd.prog 3 (wi64 c3)) (d11 g_3 (d11 g_3 r))))))))
      by_cases c4 : k7 = (((sides1.length : Nat) : Int) - 1)
      · have h := h.1 c4
        obtain ⟨c5, h⟩ := h
        exact sb (ts := [3, 4, 5, 7, 10, 11, 12]) (ids := [0, 1]) (d := 0) (s0 := ⟨[(3, .own 0 0 sides1.length), (4, int v12), (5, .ptr 1 0 0), (7, int (k7 + 1)), (10, .own 0 0 sides1.length), (11, int ((sides1.length : Nat) : Int)), (12, int v12)], [(0, .row 4 (sides1.map cPolygonSide)), (1, .box [int ((ai sides1 v12).a.x), int ((ai sides1 v12).a.y), int ((ai sides1 v12).b.x), int ((ai sides1 v12).b.y)])], 2⟩) (d11 g_1 (d11 g_2 (e_4 (d11 (abt (beq_t c4)) (d11 (oadd Tryd.prog 3 (wi64 c5)) az))))) (by kernel_rfl) (by kernel_rfl) rfl (k7 + 1) h.1 h.2 (Weak.anew [(0, some 0), (1, some 1)] (by rfl) (wt_cons rfl (wk_own rfl rfl) (wt_cons rfl wk_sc (wt_cons rfl (wk_ptr rfl) (wt_cons rfl wk_sc (wt_cons rfl (wk_own rfl rfl) (wt_cons rfl wk_sc (wt_cons rfl wk_sc wt_nil))))))) (wm_row rfl rfl (wm_box rfl rfl (wl_cons wk_sc (wl_cons wk_sc (wl_cons wk_sc (wl_cons wk_sc wl_nil)))) wm_nil)))
      · have h := h.2 c4
        obtain ⟨c5, meets1, c6, h⟩ := h
        have e_5 := fun {o : Orc} {q : List Prop} (r : At o q) => (d11 (abf (beq_f c4)) (d01 (oown cPolygonSide (n := sides1.length) rfl c5) (d11 (orow cPolygonSide c5) (d11 (ocs c6) r))))
        rcases Bool.eq_false_or_eq_true meets1 with c7 | c7
        · have h := h.1 c7
          rw [h]
          exact sr (ids := []) (vs := [boo false]) (mem := []) (d11 g_1 (d11 g_2 (e_4 (e_5 (d11 (abt c7) az))))) (by kernel_rfl) (by kernel_rfl) (rts_sc rfl)
        · have h := h.2 c7
          obtain ⟨c8, h⟩ := h
          exact sb (ts := [3, 4, 5, 7, 10, 11, 12]) (ids := [0, 1]) (d := 0) (s0 := ⟨[(3, .own 0 0 sides1.length), (4, int v12), (5, .ptr 1 0 0), (7, int (k7 + 1)), (10, .own 0 0 sides1.length), (11, int ((sides1.length : Nat) : Int)), (12, int v12)], [(0, .row 4 (sides1.map cPolygonSide)), (1, .box [int ((ai sides1 v12).a.x), int ((ai sides1 v12).a.y), int ((ai sides1 v12).b.x), int ((ai sides1 v12).b.y)])], 2⟩) (d11 g_1 (d11 g_2 (e_4 (e_5 (d11 (abf c7) (d11 (oadd Tryd.prog 3 (wi64 c8)) az)))))) (by kernel_rfl) (by kernel_rfl) rfl (k7 + 1) h.1 h.2 (Weak.anew [(0, some 0), (1, some 1)] (by rfl) (wt_cons rfl (wk_own rfl rfl) (wt_cons rfl wk_sc (wt_cons rfl (wk_ptr rfl) (wt_cons rfl wk_sc (wt_cons rfl (wk_own rfl rfl) (wt_cons rfl wk_sc (wt_cons rfl wk_sc wt_nil))))))) (wm_row rfl rfl (wm_box rfl rfl (wl_cons wk_sc (wl_cons wk_sc (wl_cons wk_sc (wl_cons wk_sc wl_nil)))) wm_nil)))
    · have h := h.2 c2
      obtain ⟨c3, meets1, c4, h⟩ := h
      have g_6 := (abf (beq_f c2))
      have e_7 := fun {o : Orc} {q : List Prop} (r : At o q) => (d11 g_6 (d11 g_6 (d11 g_6 (d11 g_6 (d11 g_6 (d11 g_6 (d11 abff (d01 (oown cPolygonSide (n := sides1.length) rfl c3) (d11 (orow cPolygonSide c3) (d11 (ocs c4) r))))))))))
      rcases Bool.eq_false_or_eq_true meets1 with c5 | c5
      · have h := h.1 c5
        rw [h]
        exact sr (ids := []) (vs := [boo false]) (mem := []) (d11 g_1 (d11 g_2 (e_7 (d11 (abt c5) az)))) (by kernel_rfl) (by kernel_rfl) (rts_sc rfl)
      · have h := h.2 c5
        obtain ⟨c6, h⟩ := h
        exact sb (ts := [3, 4, 5, 7, 10, 11, 12]) (ids := [0, 1]) (d := 0) (s0 := ⟨[(3, .own 0 0 sides1.length), (4, int v12), (5, .ptr 1 0 0), (7, int (k7 + 1)), (10, .own 0 0 sides1.length), (11, int ((sides1.length : Nat) : Int)), (12, int v12)], [(0, .row 4 (sides1.map cPolygonSide)), (1, .box [int ((ai sides1 v12).a.x), int ((ai sides1 v12).a.y), int ((ai sides1 v12).b.x), int ((ai sides1 v12).b.y)])], 2⟩) (d11 g_1 (d11 g_2 (e_7 (d11 (abf c5) (d11 (oadd Tryd.prog 3 (wi64 c6)) az))))) (by kernel_rfl) (by kernel_rfl) rfl (k7 + 1) h.1 h.2 (Weak.anew [(0, some 0), (1, some 1)] (by rfl) (wt_cons rfl (wk_own rfl rfl) (wt_cons rfl wk_sc (wt_cons rfl (wk_ptr rfl) (wt_cons rfl wk_sc (wt_cons rfl (wk_own rfl rfl) (wt_cons rfl wk_sc (wt_cons rfl wk_sc wt_nil))))))) (wm_row rfl rfl (wm_box rfl rfl (wl_cons wk_sc (wl_cons wk_sc (wl_cons wk_sc (wl_cons wk_sc wl_nil)))) wm_nil)))
  · have h := h.2 c1
    obtain ⟨c2, h⟩ := h
    have g_8 := (abf (dec_f c1))
    exact sb (ts := [3, 10, 11, 12]) (ids := [0]) (d := 1) (s0 := ⟨[(3, .own 0 0 sides1.length), (10, .own 0 0 sides1.length), (11, int ((sides1.length : Nat) : Int)), (12, int (v12 + 1))], [(0, .row 4 (sides1.map cPolygonSide))], 2⟩) (d11 g_1 (d11 g_8 (d11 (oadd Tryd.prog 3 (wi64 c2)) az))) (by kernel_rfl) (by kernel_rfl) rfl (v12 + 1) h.1 h.2 (Weak.anew [(0, some 0)] (by rfl) (wt_cons rfl (wk_own rfl rfl) (wt_cons rfl (wk_own rfl rfl) (wt_cons rfl wk_sc (wt_cons rfl wk_sc wt_nil)))) (wm_row rfl rfl wm_nil))
theorem polygon_simple_W0 (p : List Spot) (r0 : Bool) (I0 : (List PolygonSide) → Int → Prop) (M0 : (List PolygonSide) → Int → Nat) (I1 : (List PolygonSide) → Int → Int → Prop) (M1 : (List PolygonSide) → Int → Int → Nat) (h0 : ∀ (sides1 : List PolygonSide) (v12 : Int), I0 sides1 v12 → polygon_simple_V0 p r0 I0 M0 I1 M1 sides1 v12) (h1 : ∀ (sides1 : List PolygonSide) (v12 : Int) (k7 : Int), I1 sides1 v12 k7 → polygon_simple_V1 p r0 I0 M0 I1 M1 sides1 v12 k7) (sides1 : List PolygonSide) : ∀ (x : Int), I0 sides1 x → loopQ Tryd.prog XS Tryd.f52 0 (boo r0) [] (polygon_simple_S0 p sides1 x) := by
  intro x0 hx0
  refine loop_rule (fun (x : Int) => I0 sides1 x) (fun (x : Int) => M0 sides1 x) (fun (x : Int) => polygon_simple_S0 p sides1 x) x0 hx0 ?_
  intro v12 hx
  have h := h0 sides1 v12 hx
  clear hx hx0 x0
  by_cases c1 : v12 < ((sides1.length : Nat) : Int)
  · have h := h.1 c1
    obtain ⟨c2, h⟩ := h
    have g_9 := (abt (dec_t c1))
    have e_10 := fun {o : Orc} {q : List Prop} (r : At o q) => (d11 g_9 (d01 (oown cPolygonSide (n := sides1.length) rfl c2) (d11 (orow cPolygonSide c2) r)))
    by_cases c3 : (ai sides1 v12).a = (ai sides1 v12).b
    · have h := h.1 c3
      rw [h]
      exact sr (ids := []) (vs := [boo false]) (mem := []) (e_10 (d11 (abt (sSpot_t c3)) az)) (by kernel_rfl) (by kernel_rfl) (rts_sc rfl)
    · have h := h.2 c3
      obtain ⟨c4, c5, c6, holds1, c7, h⟩ := h
      have g_11 := (oleno Tryd.prog 116 0 0 sides1.length sides1.length rfl (by kernel_rfl))
      have e_12 := fun {o : Orc} {q : List Prop} (r : At o q) => (d11 (abf (sSpot_f c3)) (d11 (oadd Tryd.prog 3 (wi64 c4)) (d11 g_11 (d11 (orem Tryd.prog 3 .i64 (v12 + 1) ((sides1.length : Nat) : Int) c5) (d01 (oown cPolygonSide (n := sides1.length) rfl c6) (d11 (orow cPolygonSide c6) (d11 (ocs c7) r)))))))
      rcases Bool.eq_false_or_eq_true holds1 with c8 | c8
      · have h := h.1 c8
        rw [h]
        exact sr (ids := []) (vs := [boo false]) (mem := []) (e_10 (e_12 (d11 (abt c8) (d11 (abt c8) (d11 (abt c8) (d11 (abt c8) (d11 (abt c8) (d11 abtt az)))))))) (by kernel_rfl) (by kernel_rfl) (rts_sc rfl)
      · have h := h.2 c8
        obtain ⟨holds2, c9, h⟩ := h
        have e_13 := fun {o : Orc} {q : List Prop} (r : At o q) => (d11 (abf c8) (d11 (abf c8) (d11 (abf c8) (d11 (abf c8) (d11 (ocs c9) (d11 (abf c8) r))))))
        rcases Bool.eq_false_or_eq_true holds2 with c10 | c10
        · have h := h.1 c10
          rw [h]
          exact sr (ids := []) (vs := [boo false]) (mem := []) (e_10 (e_12 (e_13 (d11 (abt c10) az)))) (by kernel_rfl) (by kernel_rfl) (rts_sc rfl)
        · have h := h.2 c10
          obtain ⟨c11, h⟩ := h
          exact sl (ts := [3, 4, 5, 7, 10, 11, 12]) (ids := [0, 1]) (d := 0) (s0 := ⟨[(3, .own 0 0 sides1.length), (4, int v12), (5, .ptr 1 0 0), (7, int (v12 + 2)), (10, .own 0 0 sides1.length), (11, int ((sides1.length : Nat) : Int)), (12, int v12)], [(0, .row 4 (sides1.map cPolygonSide)), (1, .box [int ((ai sides1 v12).a.x), int ((ai sides1 v12).a.y), int ((ai sides1 v12).b.x), int ((ai sides1 v12).b.y)])], 3⟩) (e_10 (e_12 (e_13 (d11 (abf c10) (d11 (oadd Tryd.prog 3 (wi64 c11)) az))))) (by kernel_rfl) (by kernel_rfl) (Weak.anew [(0, some 0), (1, some 1)] (by rfl) (wt_cons rfl (wk_own rfl rfl) (wt_cons rfl wk_sc (wt_cons rfl (wk_ptr rfl) (wt_cons rfl wk_sc (wt_cons rfl (wk_own rfl rfl) (wt_cons rfl wk_sc (wt_cons rfl wk_sc wt_nil))))))) (wm_row rfl rfl (wm_box rfl rfl (wl_cons wk_sc (wl_cons wk_sc (wl_cons wk_sc (wl_cons wk_sc wl_nil)))) wm_nil))) (polygon_simple_W1 p r0 I0 M0 I1 M1 h0 h1 sides1 v12 (v12 + 2) h)
  · have h := h.2 c1
    have g_14 := (abf (dec_f c1))
    rw [h]
    exact sr (ids := []) (vs := [boo true]) (mem := []) (d11 g_14 az) (by kernel_rfl) (by kernel_rfl) (rts_sc rfl)
theorem polygon_simple_W (p : List Spot) (r0 : Bool) (I0 : (List PolygonSide) → Int → Prop) (M0 : (List PolygonSide) → Int → Nat) (I1 : (List PolygonSide) → Int → Int → Prop) (M1 : (List PolygonSide) → Int → Int → Nat) (h : polygon_simple_V p r0 I0 M0 I1 M1) (h0 : ∀ (sides1 : List PolygonSide) (v12 : Int), I0 sides1 v12 → polygon_simple_V0 p r0 I0 M0 I1 M1 sides1 v12) (h1 : ∀ (sides1 : List PolygonSide) (v12 : Int) (k7 : Int), I1 sides1 v12 k7 → polygon_simple_V1 p r0 I0 M0 I1 M1 sides1 v12 k7) : Ret Tryd.prog XS 52 [.sl 2 (p.map cSpot)] (boo r0) := by
  refine fn_rule Tryd.func52 (by kernel_rfl) (by kernel_rfl) (by kernel_rfl) (by kernel_rfl) ?_
  obtain ⟨sides1, c1, h⟩ := h
  exact sl (ts := [3, 10, 11, 12]) (ids := [0]) (d := 0) (s0 := ⟨[(3, .own 0 0 ((sides1.map cPolygonSide).length)), (10, .own 0 0 ((sides1.map cPolygonSide).length)), (11, int ((sides1.length : Nat) : Int)), (12, int 0)], [(0, .row 4 (sides1.map cPolygonSide))], 1⟩) (d11 (ocs c1) (d11 (oleno Tryd.prog 116 0 0 ((sides1.map cPolygonSide).length) sides1.length (List.length_map ..) (by kernel_rfl)) az)) (by kernel_rfl) (by kernel_rfl) (Weak.anew [(0, some 0)] (by rfl) (wt_cons rfl (wk_own rfl (List.length_map ..)) (wt_cons rfl (wk_own rfl (List.length_map ..)) (wt_cons rfl wk_sc (wt_cons rfl wk_sc wt_nil)))) (wm_row rfl rfl wm_nil)) (polygon_simple_W0 p r0 I0 M0 I1 M1 h0 h1 sides1 0 h)

-- polygon.sides
def polygon_sides_S0 (p : List Spot) (v11 : Int) (w3 : List PolygonSide) : AS := ⟨[(0, .sl 2 (p.map cSpot)), (3, .own 0 0 w3.length), (9, .sl 2 (p.map cSpot)), (10, int ((p.length : Nat) : Int)), (11, int v11)], [(0, .row 4 (w3.map cPolygonSide))], 1⟩
abbrev polygon_sides_V (p : List Spot) (r0 : List PolygonSide) (I0 : Int → (List PolygonSide) → Prop) (M0 : Int → (List PolygonSide) → Nat) : Prop := (0 ≤ ((p.length : Nat) : Int)) ∧ (((p.length : Nat) : Int) * 32 ≤ 140737488355328) ∧ (((p.length : Nat) : Int) ≤ 9223372036854775807) ∧ I0 0 (List.replicate (((p.length : Nat) : Int) : Int).toNat (⟨(⟨0, 0⟩ : Spot), (⟨0, 0⟩ : Spot)⟩ : PolygonSide))
abbrev polygon_sides_V0 (p : List Spot) (r0 : List PolygonSide) (I0 : Int → (List PolygonSide) → Prop) (M0 : Int → (List PolygonSide) → Nat) (v11 : Int) (w3 : List PolygonSide) : Prop := ((v11 < ((p.length : Nat) : Int) → (Idx v11 p.length) ∧ (InR (v11 + 1)) ∧ (((p.length : Nat) : Int) ≠ 0) ∧ (Idx ((v11 + 1).tmod ((p.length : Nat) : Int)) p.length) ∧ (Idx v11 w3.length) ∧ I0 (v11 + 1) (w3.set (v11 : Int).toNat (⟨(ai p v11), (ai p ((v11 + 1).tmod ((p.length : Nat) : Int)))⟩ : PolygonSide)) ∧ M0 (v11 + 1) (w3.set (v11 : Int).toNat (⟨(ai p v11), (ai p ((v11 + 1).tmod ((p.length : Nat) : Int)))⟩ : PolygonSide)) < M0 v11 w3) ∧ (¬ (v11 < ((p.length : Nat) : Int)) → r0 = w3))
theorem polygon_sides_W0 (p : List Spot) (r0 : List PolygonSide) (I0 : Int → (List PolygonSide) → Prop) (M0 : Int → (List PolygonSide) → Nat) (h0 : ∀ (v11 : Int) (w3 : List PolygonSide), I0 v11 w3 → polygon_sides_V0 p r0 I0 M0 v11 w3) : ∀ (x : Int × (List PolygonSide)), I0 x.1 x.2 → loopQ Tryd.prog XS Tryd.f56 0 (.fr 4 (r0.map cPolygonSide)) [] (polygon_sides_S0 p x.1 x.2) := by
  intro x0 hx0
  refine loop_rule (fun (x : Int × (List PolygonSide)) => I0 x.1 x.2) (fun (x : Int × (List PolygonSide)) => M0 x.1 x.2) (fun (x : Int × (List PolygonSide)) => polygon_sides_S0 p x.1 x.2) x0 hx0 ?_
  rintro ⟨v11, w3⟩ hx
  have h := h0 v11 w3 hx
  clear hx hx0 x0
  by_cases c1 : v11 < ((p.length : Nat) : Int)
  · have h := h.1 c1
    obtain ⟨c2, c3, c4, c5, c6, h⟩ := h
    have g_1 := (oadd Tryd.prog 3 (wi64 c3))
    have g_2 := (olen cSpot Tryd.prog 29 2 p (by kernel_rfl))
    exact sb (ts := [0, 3, 9, 10, 11]) (ids := [0]) (d := 0) (s0 := ⟨[(0, .sl 2 (p.map cSpot)), (3, .own 0 0 w3.length), (9, .sl 2 (p.map cSpot)), (10, int ((p.length : Nat) : Int)), (11, int (v11 + 1))], [(0, .row 4 ((w3.set (v11 : Int).toNat (⟨(ai p v11), (ai p ((v11 + 1).tmod ((p.length : Nat) : Int)))⟩ : PolygonSide)).map cPolygonSide))], 2⟩) (d11 (abt (dec_t c1)) (d11 (oidx cSpot c2) (d11 g_1 (d11 g_2 (d11 (orem Tryd.prog 3 .i64 (v11 + 1) ((p.length : Nat) : Int) c4) (d11 (oidx cSpot c5) (d01 (oown cPolygonSide (n := w3.length) rfl c6) (d21 (oset cPolygonSide (⟨(ai p v11), (ai p ((v11 + 1).tmod ((p.length : Nat) : Int)))⟩ : PolygonSide) c6) (d11 g_1 az))))))))) (by kernel_rfl) (by kernel_rfl) rfl ((v11 + 1), (w3.set (v11 : Int).toNat (⟨(ai p v11), (ai p ((v11 + 1).tmod ((p.length : Nat) : Int)))⟩ : PolygonSide))) h.1 h.2 (Weak.anew [(0, some 0)] (by rfl) (wt_cons rfl wk_sl (wt_cons rfl (wk_own rfl (by simp)) (wt_cons rfl wk_sl (wt_cons rfl wk_sc (wt_cons rfl wk_sc wt_nil))))) (wm_row rfl rfl wm_nil))
  · have h := h.2 c1
    rw [h]
    exact sr (ids := [0]) (vs := [.own 0 0 w3.length]) (mem := [(0, .row 4 (w3.map cPolygonSide))]) (d11 (abf (dec_f c1)) az) (by kernel_rfl) (by kernel_rfl) (rts_own rfl rfl rfl rfl)
theorem polygon_sides_W (p : List Spot) (r0 : List PolygonSide) (I0 : Int → (List PolygonSide) → Prop) (M0 : Int → (List PolygonSide) → Nat) (h : polygon_sides_V p r0 I0 M0) (h0 : ∀ (v11 : Int) (w3 : List PolygonSide), I0 v11 w3 → polygon_sides_V0 p r0 I0 M0 v11 w3) : Ret Tryd.prog XS 56 [.sl 2 (p.map cSpot)] (.fr 4 (r0.map cPolygonSide)) := by
  refine fn_rule Tryd.func56 (by kernel_rfl) (by kernel_rfl) (by kernel_rfl) (by kernel_rfl) ?_
  obtain ⟨c1, c2, c3, h⟩ := h
  have g_3 := (olen cSpot Tryd.prog 29 2 p (by kernel_rfl))
  exact sl (ts := [0, 3, 9, 10, 11]) (ids := [0]) (d := 0) (s0 := ⟨[(0, .sl 2 (p.map cSpot)), (3, .own 0 0 ((List.replicate (((p.length : Nat) : Int) : Int).toNat (⟨(⟨0, 0⟩ : Spot), (⟨0, 0⟩ : Spot)⟩ : PolygonSide)).length)), (9, .sl 2 (p.map cSpot)), (10, int ((p.length : Nat) : Int)), (11, int 0)], [(0, .row 4 ((List.replicate (((p.length : Nat) : Int) : Int).toNat (⟨(⟨0, 0⟩ : Spot), (⟨0, 0⟩ : Spot)⟩ : PolygonSide)).map cPolygonSide))], 1⟩) (d11 g_3 (d11 (omake cPolygonSide (v := (⟨(⟨0, 0⟩ : Spot), (⟨0, 0⟩ : Spot)⟩ : PolygonSide)) (z := [int 0, int 0, int 0, int 0]) (l := ((p.length : Nat) : Int)) (b := 32) rfl c1 c2 c3) (d11 g_3 az))) (by kernel_rfl) (by kernel_rfl) (Weak.anew [(0, some 0)] (by rfl) (wt_cons rfl wk_sl (wt_cons rfl (wk_own rfl rfl) (wt_cons rfl wk_sl (wt_cons rfl wk_sc (wt_cons rfl wk_sc wt_nil))))) (wm_row rfl rfl wm_nil)) (polygon_sides_W0 p r0 I0 M0 h0 (0, (List.replicate (((p.length : Nat) : Int) : Int).toNat (⟨(⟨0, 0⟩ : Spot), (⟨0, 0⟩ : Spot)⟩ : PolygonSide))) h)

-- (polygon.side).holds
abbrev polygon_side_holds_V (s0 : PolygonSide) (q : Spot) (r0 : Bool) : Prop := (∃ (turn1 : Int), Ret Tryd.prog XS 61 [.agg [int s0.a.x, int s0.a.y], .agg [int s0.b.x, int s0.b.y], .agg [int q.x, int q.y]] (int turn1) ∧ ((turn1 = 0 → (∃ (within2 : Bool), Ret Tryd.prog XS 62 [int q.x, int s0.a.x, int s0.b.x] (boo within2) ∧ ((within2 = true → (∃ (within3 : Bool), Ret Tryd.prog XS 62 [int q.y, int s0.a.y, int s0.b.y] (boo within3) ∧ r0 = within3)) ∧ (within2 = false → r0 = false)))) ∧ (¬ (turn1 = 0) → r0 = false)))
theorem polygon_side_holds_W (s0 : PolygonSide) (q : Spot) (r0 : Bool) (h : polygon_side_holds_V s0 q r0) : Ret Tryd.prog XS 57 [.agg [int s0.a.x, int s0.a.y, int s0.b.x, int s0.b.y], .agg [int q.x, int q.y]] (boo r0) := by
  refine fn_rule Tryd.func57 (by kernel_rfl) (by kernel_rfl) (by kernel_rfl) (by kernel_rfl) ?_
  obtain ⟨turn1, c1, h⟩ := h
  have e_1 := fun {o : Orc} {q : List Prop} (r : At o q) => (d11 (ocs c1) r)
  by_cases c2 : turn1 = 0
  · have h := h.1 c2
    obtain ⟨within2, c3, h⟩ := h
    have g_2 := (abt (beq_t c2))
    have e_3 := fun {o : Orc} {q : List Prop} (r : At o q) => (d11 g_2 (d11 g_2 (d11 g_2 (d11 g_2 (d11 g_2 (d11 g_2 (d11 g_2 (d11 g_2 (d11 g_2 (d11 (ocs c3) (d11 g_2 r)))))))))))
    rcases Bool.eq_false_or_eq_true within2 with c4 | c4
    · have h := h.1 c4
      obtain ⟨within3, c5, h⟩ := h
      rw [h]
      exact sr (ids := []) (vs := [boo within3]) (mem := []) (e_1 (e_3 (d11 (abt c4) (d11 (abt c4) (d11 (abt c4) (d11 (abt c4) (d11 (abt c4) (d11 (abt c4) (d11 (abt c4) (d11 (abt c4) (d11 (abt c4) (d11 (ocs c5) (d11 (abt c4) az))))))))))))) (by kernel_rfl) (by kernel_rfl) (rts_sc rfl)
    · have h := h.2 c4
      rw [h]
      exact sr (ids := []) (vs := [boo false]) (mem := []) (e_1 (e_3 (d11 (abf c4) (d11 (abf c4) (d11 (abf c4) (d11 (abf c4) (d11 (abf c4) (d11 (abf c4) (d11 (abf c4) (d11 (abf c4) (d11 (abf c4) (d11 (abf c4) az)))))))))))) (by kernel_rfl) (by kernel_rfl) (rts_sc rfl)
  · have h := h.2 c2
    have g_4 := (abf (beq_f c2))
    rw [h]
    exact sr (ids := []) (vs := [boo false]) (mem := []) (e_1 (d11 g_4 (d11 g_4 (d11 g_4 (d11 g_4 (d11 g_4 (d11 g_4 (d11 g_4 (d11 g_4 (d11 g_4 (d11 g_4 (d11 abff (d11 abff (d11 abff (d11 abff (d11 abff (d11 abff (d11 abff (d11 abff (d11 abff (d11 abff az))))))))))))))))))))) (by kernel_rfl) (by kernel_rfl) (rts_sc rfl)

-- polygon.turn
abbrev polygon_turn_V (a : Spot) (b : Spot) (c : Spot) (r0 : Int) : Prop := (InR (b.x - a.x)) ∧ (InR (c.y - b.y)) ∧ (InR ((b.x - a.x) * (c.y - b.y))) ∧ (InR (b.y - a.y)) ∧ (InR (c.x - b.x)) ∧ (InR ((b.y - a.y) * (c.x - b.x))) ∧ (InR (((b.x - a.x) * (c.y - b.y)) - ((b.y - a.y) * (c.x - b.x)))) ∧ r0 = (((b.x - a.x) * (c.y - b.y)) - ((b.y - a.y) * (c.x - b.x)))
theorem polygon_turn_W (a : Spot) (b : Spot) (c : Spot) (r0 : Int) (h : polygon_turn_V a b c r0) : Ret Tryd.prog XS 61 [.agg [int a.x, int a.y], .agg [int b.x, int b.y], .agg [int c.x, int c.y]] (int r0) := by
  refine fn_rule Tryd.func61 (by kernel_rfl) (by kernel_rfl) (by kernel_rfl) (by kernel_rfl) ?_
  obtain ⟨c1, c2, c3, c4, c5, c6, c7, h⟩ := h
  rw [h]
  exact sr (ids := []) (vs := [int (((b.x - a.x) * (c.y - b.y)) - ((b.y - a.y) * (c.x - b.x)))]) (mem := []) (d11 (osub Tryd.prog 3 (wi64 c1)) (d11 (osub Tryd.prog 3 (wi64 c2)) (d11 (omul Tryd.prog 3 (wi64 c3)) (d11 (osub Tryd.prog 3 (wi64 c4)) (d11 (osub Tryd.prog 3 (wi64 c5)) (d11 (omul Tryd.prog 3 (wi64 c6)) (d11 (osub Tryd.prog 3 (wi64 c7)) az))))))) (by kernel_rfl) (by kernel_rfl) (rts_sc rfl)

-- polygon.within
abbrev polygon_within_V (n : Int) (a : Int) (b : Int) (r0 : Bool) : Prop := (((min a b) ≤ n → r0 = (decide (n ≤ (max a b)))) ∧ (¬ ((min a b) ≤ n) → r0 = false))
theorem polygon_within_W (n : Int) (a : Int) (b : Int) (r0 : Bool) (h : polygon_within_V n a b r0) : Ret Tryd.prog XS 62 [int n, int a, int b] (boo r0) := by
  refine fn_rule Tryd.func62 (by kernel_rfl) (by kernel_rfl) (by kernel_rfl) (by kernel_rfl) ?_
  have e_1 := fun {o : Orc} {q : List Prop} (r : At o q) => (d11 (omin .i64 a b) r)
  by_cases c1 : (min a b) ≤ n
  · have h := h.1 c1
    have g_2 := (abt (dec_t c1))
    rw [h]
    exact sr (ids := []) (vs := [boo (decide (n ≤ (max a b)))]) (mem := []) (e_1 (d11 g_2 (d11 g_2 (d11 g_2 (d11 g_2 (d11 (omax .i64 a b) (d11 g_2 (d11 g_2 az)))))))) (by kernel_rfl) (by kernel_rfl) (rts_sc rfl)
  · have h := h.2 c1
    have g_3 := (abf (dec_f c1))
    rw [h]
    exact sr (ids := []) (vs := [boo false]) (mem := []) (e_1 (d11 g_3 (d11 g_3 (d11 g_3 (d11 g_3 (d11 g_3 (d11 g_3 az))))))) (by kernel_rfl) (by kernel_rfl) (rts_sc rfl)

end Go.Ab
end
