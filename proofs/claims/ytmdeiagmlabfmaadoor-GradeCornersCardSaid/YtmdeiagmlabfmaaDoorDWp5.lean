/- A part of the proof. Conditions: those of each theorem. -/
import Derived.Test.YtmdeiagmlabfmaaDoorDTy
import Derived.Test.YtmdeiagmlabfmaaDoorDX
set_option linter.unusedVariables false
set_option linter.unusedSimpArgs false
set_option linter.unusedSectionVars false

section
namespace Go.Ab
open Go.Proofs
set_option maxRecDepth 100000
set_option linter.unusedVariables false
attribute [local irreducible] todoQ
-- garmentref21.SameEdges
def garmentref21_SameEdges_S0 (a : List Edge) (b : List Edge) (i5 : Int) : AS := ⟨[(0, .sl 2 (a.map cEdge)), (1, .sl 2 (b.map cEdge)), (5, int i5)], [], 0⟩
abbrev garmentref21_SameEdges_V (a : List Edge) (b : List Edge) (r0 : Bool) (I0 : Int → Prop) (M0 : Int → Nat) : Prop := ((((a.length : Nat) : Int) = ((b.length : Nat) : Int) → I0 0) ∧ (¬ (((a.length : Nat) : Int) = ((b.length : Nat) : Int)) → r0 = false))
abbrev garmentref21_SameEdges_V0 (a : List Edge) (b : List Edge) (r0 : Bool) (I0 : Int → Prop) (M0 : Int → Nat) (i5 : Int) : Prop := ((i5 < ((a.length : Nat) : Int) → (Idx i5 a.length) ∧ (Idx i5 b.length) ∧ (((ai a i5).name = (ai b i5).name → (∃ (same1 : Bool), Ret Tryd.prog XS 17 [.sl 2 (((ai a i5).line).map cSpot), .sl 2 (((ai b i5).line).map cSpot)] (boo same1) ∧ ((same1 = true → (InR (i5 + 1)) ∧ I0 (i5 + 1) ∧ M0 (i5 + 1) < M0 i5) ∧ (same1 = false → r0 = false)))) ∧ (¬ ((ai a i5).name = (ai b i5).name) → r0 = false))) ∧ (¬ (i5 < ((a.length : Nat) : Int)) → r0 = true))
theorem garmentref21_SameEdges_W0 (a : List Edge) (b : List Edge) (r0 : Bool) (I0 : Int → Prop) (M0 : Int → Nat) (h0 : ∀ (i5 : Int), I0 i5 → garmentref21_SameEdges_V0 a b r0 I0 M0 i5) : ∀ (x : Int), I0 x → loopQ Tryd.prog XS Tryd.f13 0 (boo r0) [] (garmentref21_SameEdges_S0 a b x) := by
  intro x0 hx0
  refine loop_rule (fun (x : Int) => I0 x) (fun (x : Int) => M0 x) (fun (x : Int) => garmentref21_SameEdges_S0 a b x) x0 hx0 ?_
  intro i5 hx
  have h := h0 i5 hx
  clear hx hx0 x0
  have g_1 := (olen cEdge Tryd.prog 22 2 a (by kernel_rfl))
  by_cases c1 : i5 < ((a.length : Nat) : Int)
  · have h := h.1 c1
    obtain ⟨c2, c3, h⟩ := h
    have g_2 := (oidx cEdge c2)
    have g_3 := (oidx cEdge c3)
    have e_4 := (ac (abt (dec_t c1)) (ac g_2 g_3))
    by_cases c4 : (ai a i5).name = (ai b i5).name
    · have h := h.1 c4
      obtain ⟨same1, c5, h⟩ := h
      have g_5 := (abf (not_f (streq_t c4)))
      have e_6 := (ac g_5 (ac g_5 (ac g_5 (ac g_2 (ac g_5 (ac g_5 (ac g_5 (ac g_5 (ac g_5 (ac g_3 (ac g_5 (ac g_5 (ac g_5 (ac (ocs c5) (ac g_5 g_5)))))))))))))))
      rcases Bool.eq_false_or_eq_true same1 with c6 | c6
      · have h := h.1 c6
        obtain ⟨c7, h⟩ := h
        exact sb (ts := [0, 1, 5]) (ids := []) (d := 0) (s0 := ⟨[(0, .sl 2 (a.map cEdge)), (1, .sl 2 (b.map cEdge)), (5, int (i5 + 1))], [], 0⟩) (ac g_1 (ac e_4 (ac e_6 (ac (abf (not_f c6)) (oadd Tryd.prog 3 (wi64 c7)))))) (by kernel_rfl) (by kernel_rfl) rfl (i5 + 1) h.1 h.2 (Weak.anew [] (by rfl) (wt_cons rfl wk_sl (wt_cons rfl wk_sl (wt_cons rfl wk_sc wt_nil))) wm_nil)
      · have h := h.2 c6
        rw [h]
        exact sr (ids := []) (vs := [boo false]) (mem := []) (ac g_1 (ac e_4 (ac e_6 (abt (not_t c6))))) (by kernel_rfl) (by kernel_rfl) (rts_sc rfl)
    · have h := h.2 c4
      have g_7 := (abt (not_t (streq_f c4)))
      rw [h]
      exact sr (ids := []) (vs := [boo false]) (mem := []) (ac g_1 (ac e_4 (ac g_7 (ac g_7 (ac g_7 (ac g_7 (ac g_7 (ac g_7 (ac g_7 (ac g_7 (ac g_7 (ac g_7 (ac g_7 (ac g_7 (ac g_7 abtt))))))))))))))) (by kernel_rfl) (by kernel_rfl) (rts_sc rfl)
  · have h := h.2 c1
    rw [h]
    exact sr (ids := []) (vs := [boo true]) (mem := []) (ac g_1 (abf (dec_f c1))) (by kernel_rfl) (by kernel_rfl) (rts_sc rfl)
theorem garmentref21_SameEdges_W (a : List Edge) (b : List Edge) (r0 : Bool) (I0 : Int → Prop) (M0 : Int → Nat) (h : garmentref21_SameEdges_V a b r0 I0 M0) (h0 : ∀ (i5 : Int), I0 i5 → garmentref21_SameEdges_V0 a b r0 I0 M0 i5) : Ret Tryd.prog XS 13 [.sl 2 (a.map cEdge), .sl 2 (b.map cEdge)] (boo r0) := by
  refine fn_rule Tryd.func13 (by kernel_rfl) (by kernel_rfl) (by kernel_rfl) (by kernel_rfl) ?_
  have g_8 := (olen cEdge Tryd.prog 22 2 a (by kernel_rfl))
  have e_9 := (ac g_8 (olen cEdge Tryd.prog 22 2 b (by kernel_rfl)))
  by_cases c1 : ((a.length : Nat) : Int) = ((b.length : Nat) : Int)
  · have h := h.1 c1
    exact sl (ts := [0, 1, 5]) (ids := []) (d := 0) (s0 := ⟨[(0, .sl 2 (a.map cEdge)), (1, .sl 2 (b.map cEdge)), (5, int 0)], [], 0⟩) (ac e_9 (abf (bne_f c1))) (by kernel_rfl) (by kernel_rfl) (Weak.anew [] (by rfl) (wt_cons rfl wk_sl (wt_cons rfl wk_sl (wt_cons rfl wk_sc wt_nil))) wm_nil) (garmentref21_SameEdges_W0 a b r0 I0 M0 h0 0 h)
  · have h := h.2 c1
    rw [h]
    exact sr (ids := []) (vs := [boo false]) (mem := []) (ac e_9 (abt (bne_t c1))) (by kernel_rfl) (by kernel_rfl) (rts_sc rfl)

-- outline.Turned
-- grade.Areas
-- garmentref21.SameInts
-- garmentref11.Same
def garmentref11_Same_S0 (a : List Spot) (b : List Spot) (i5 : Int) : AS := ⟨[(0, .sl 2 (a.map cSpot)), (1, .sl 2 (b.map cSpot)), (5, int i5)], [], 0⟩
abbrev garmentref11_Same_V (a : List Spot) (b : List Spot) (r0 : Bool) (I0 : Int → Prop) (M0 : Int → Nat) : Prop := ((((a.length : Nat) : Int) = ((b.length : Nat) : Int) → I0 0) ∧ (¬ (((a.length : Nat) : Int) = ((b.length : Nat) : Int)) → r0 = false))
abbrev garmentref11_Same_V0 (a : List Spot) (b : List Spot) (r0 : Bool) (I0 : Int → Prop) (M0 : Int → Nat) (i5 : Int) : Prop := ((i5 < ((a.length : Nat) : Int) → (Idx i5 a.length) ∧ (Idx i5 b.length) ∧ (((ai a i5) = (ai b i5) → (InR (i5 + 1)) ∧ I0 (i5 + 1) ∧ M0 (i5 + 1) < M0 i5) ∧ (¬ ((ai a i5) = (ai b i5)) → r0 = false))) ∧ (¬ (i5 < ((a.length : Nat) : Int)) → r0 = true))
theorem garmentref11_Same_W0 (a : List Spot) (b : List Spot) (r0 : Bool) (I0 : Int → Prop) (M0 : Int → Nat) (h0 : ∀ (i5 : Int), I0 i5 → garmentref11_Same_V0 a b r0 I0 M0 i5) : ∀ (x : Int), I0 x → loopQ Tryd.prog XS Tryd.f17 0 (boo r0) [] (garmentref11_Same_S0 a b x) := by
  intro x0 hx0
  refine loop_rule (fun (x : Int) => I0 x) (fun (x : Int) => M0 x) (fun (x : Int) => garmentref11_Same_S0 a b x) x0 hx0 ?_
  intro i5 hx
  have h := h0 i5 hx
  clear hx hx0 x0
  have g_1 := (olen cSpot Tryd.prog 24 2 a (by kernel_rfl))
  by_cases c1 : i5 < ((a.length : Nat) : Int)
  · have h := h.1 c1
    obtain ⟨c2, c3, h⟩ := h
    have e_2 := (ac (abt (dec_t c1)) (ac (oidx cSpot c2) (oidx cSpot c3)))
    by_cases c4 : (ai a i5) = (ai b i5)
    · have h := h.1 c4
      obtain ⟨c5, h⟩ := h
      exact sb (ts := [0, 1, 5]) (ids := []) (d := 0) (s0 := ⟨[(0, .sl 2 (a.map cSpot)), (1, .sl 2 (b.map cSpot)), (5, int (i5 + 1))], [], 0⟩) (ac g_1 (ac e_2 (ac (abf (not_f (sSpot_t c4))) (oadd Tryd.prog 3 (wi64 c5))))) (by kernel_rfl) (by kernel_rfl) rfl (i5 + 1) h.1 h.2 (Weak.anew [] (by rfl) (wt_cons rfl wk_sl (wt_cons rfl wk_sl (wt_cons rfl wk_sc wt_nil))) wm_nil)
    · have h := h.2 c4
      rw [h]
      exact sr (ids := []) (vs := [boo false]) (mem := []) (ac g_1 (ac e_2 (abt (not_t (sSpot_f c4))))) (by kernel_rfl) (by kernel_rfl) (rts_sc rfl)
  · have h := h.2 c1
    rw [h]
    exact sr (ids := []) (vs := [boo true]) (mem := []) (ac g_1 (abf (dec_f c1))) (by kernel_rfl) (by kernel_rfl) (rts_sc rfl)
theorem garmentref11_Same_W (a : List Spot) (b : List Spot) (r0 : Bool) (I0 : Int → Prop) (M0 : Int → Nat) (h : garmentref11_Same_V a b r0 I0 M0) (h0 : ∀ (i5 : Int), I0 i5 → garmentref11_Same_V0 a b r0 I0 M0 i5) : Ret Tryd.prog XS 17 [.sl 2 (a.map cSpot), .sl 2 (b.map cSpot)] (boo r0) := by
  refine fn_rule Tryd.func17 (by kernel_rfl) (by kernel_rfl) (by kernel_rfl) (by kernel_rfl) ?_
  have g_3 := (olen cSpot Tryd.prog 24 2 a (by kernel_rfl))
  have e_4 := (ac g_3 (olen cSpot Tryd.prog 24 2 b (by kernel_rfl)))
  by_cases c1 : ((a.length : Nat) : Int) = ((b.length : Nat) : Int)
  · have h := h.1 c1
    exact sl (ts := [0, 1, 5]) (ids := []) (d := 0) (s0 := ⟨[(0, .sl 2 (a.map cSpot)), (1, .sl 2 (b.map cSpot)), (5, int 0)], [], 0⟩) (ac e_4 (abf (bne_f c1))) (by kernel_rfl) (by kernel_rfl) (Weak.anew [] (by rfl) (wt_cons rfl wk_sl (wt_cons rfl wk_sl (wt_cons rfl wk_sc wt_nil))) wm_nil) (garmentref11_Same_W0 a b r0 I0 M0 h0 0 h)
  · have h := h.2 c1
    rw [h]
    exact sr (ids := []) (vs := [boo false]) (mem := []) (ac e_4 (abt (bne_t c1))) (by kernel_rfl) (by kernel_rfl) (rts_sc rfl)

-- polyline.Move
end Go.Ab
end

section
namespace Go.Ab
open Go.Proofs
set_option maxRecDepth 100000
set_option linter.unusedVariables false
attribute [local irreducible] todoQ
-- outline.Check
def outline_Check_S0 (l : List Edge) (end4 : List Spot) (v27 : Int) : AS := ⟨[(0, .sl 2 (l.map cEdge)), (4, .sl 2 (end4.map cSpot)), (25, .sl 2 (l.map cEdge)), (26, int ((l.length : Nat) : Int)), (27, int v27)], [], 0⟩
abbrev outline_Check_V (l : List Edge) (r0 : Int) (I0 : (List Spot) → Int → Prop) (M0 : (List Spot) → Int → Nat) : Prop := ((((l.length : Nat) : Int) > 16 → r0 = 5) ∧ (¬ (((l.length : Nat) : Int) > 16) → ((((l.length : Nat) : Int) < 2 → r0 = 11) ∧ (¬ (((l.length : Nat) : Int) < 2) → (∃ (edges1 : Int), Ret Tryd.prog XS 35 [.sl 2 (l.map cEdge)] (int edges1) ∧ ((edges1 = 0 → (InR (((l.length : Nat) : Int) - 1)) ∧ (Idx (((l.length : Nat) : Int) - 1) l.length) ∧ I0 ((ai l (((l.length : Nat) : Int) - 1)).line) 0) ∧ (¬ (edges1 = 0) → r0 = edges1)))))))
abbrev outline_Check_V0 (l : List Edge) (r0 : Int) (I0 : (List Spot) → Int → Prop) (M0 : (List Spot) → Int → Nat) (end4 : List Spot) (v27 : Int) : Prop := ((v27 < ((l.length : Nat) : Int) → (Idx v27 l.length) ∧ (InR (((end4.length : Nat) : Int) - 1)) ∧ (Idx (((end4.length : Nat) : Int) - 1) end4.length) ∧ (Idx 0 ((ai l v27).line).length) ∧ (((ai end4 (((end4.length : Nat) : Int) - 1)) = (ai ((ai l v27).line) 0) → (InR (v27 + 1)) ∧ I0 ((ai l v27).line) (v27 + 1) ∧ M0 ((ai l v27).line) (v27 + 1) < M0 end4 v27) ∧ (¬ ((ai end4 (((end4.length : Nat) : Int) - 1)) = (ai ((ai l v27).line) 0)) → r0 = 11))) ∧ (¬ (v27 < ((l.length : Nat) : Int)) → (∃ (vertices1 : List Spot), Ret Tryd.prog XS 37 [.sl 2 (l.map cEdge)] (.fr 2 (vertices1.map cSpot)) ∧ (∃ (check2 : Int), Ret Tryd.prog XS 36 [.sl 2 (vertices1.map cSpot)] (int check2) ∧ r0 = check2))))
theorem outline_Check_W0 (l : List Edge) (r0 : Int) (I0 : (List Spot) → Int → Prop) (M0 : (List Spot) → Int → Nat) (h0 : ∀ (end4 : List Spot) (v27 : Int), I0 end4 v27 → outline_Check_V0 l r0 I0 M0 end4 v27) : ∀ (x : (List Spot) × Int), I0 x.1 x.2 → loopQ Tryd.prog XS Tryd.f19 0 (int r0) [] (outline_Check_S0 l x.1 x.2) := by
  intro x0 hx0
  refine loop_rule (fun (x : (List Spot) × Int) => I0 x.1 x.2) (fun (x : (List Spot) × Int) => M0 x.1 x.2) (fun (x : (List Spot) × Int) => outline_Check_S0 l x.1 x.2) x0 hx0 ?_
  rintro ⟨end4, v27⟩ hx
  have h := h0 end4 v27 hx
  clear hx hx0 x0
  by_cases c1 : v27 < ((l.length : Nat) : Int)
  · have h := h.1 c1
    obtain ⟨c2, c3, c4, c5, h⟩ := h
    have g_1 := (abt (dec_t c1))
    have e_2 := (ac g_1 (ac (oidx cEdge c2) (ac (olen cSpot Tryd.prog 24 2 end4 (by kernel_rfl)) (ac (osub Tryd.prog 3 (wi64 c3)) (ac (oidx cSpot c4) (oidx cSpot c5))))))
    by_cases c6 : (ai end4 (((end4.length : Nat) : Int) - 1)) = (ai ((ai l v27).line) 0)
    · have h := h.1 c6
      obtain ⟨c7, h⟩ := h
      exact sb (ts := [0, 4, 25, 26, 27]) (ids := []) (d := 0) (s0 := ⟨[(0, .sl 2 (l.map cEdge)), (4, .sl 2 (((ai l v27).line).map cSpot)), (25, .sl 2 (l.map cEdge)), (26, int ((l.length : Nat) : Int)), (27, int (v27 + 1))], [], 1⟩) (ac e_2 (ac (abf (not_f (sSpot_t c6))) (oadd Tryd.prog 3 (wi64 c7)))) (by kernel_rfl) (by kernel_rfl) rfl ((ai l v27).line, (v27 + 1)) h.1 h.2 (Weak.anew [] (by rfl) (wt_cons rfl wk_sl (wt_cons rfl wk_sl (wt_cons rfl wk_sl (wt_cons rfl wk_sc (wt_cons rfl wk_sc wt_nil))))) wm_nil)
    · have h := h.2 c6
      rw [h]
      exact sr (ids := []) (vs := [int 11]) (mem := []) (ac e_2 (abt (not_t (sSpot_f c6)))) (by kernel_rfl) (by kernel_rfl) (rts_sc rfl)
  · have h := h.2 c1
    obtain ⟨vertices1, c2, check2, c3, h⟩ := h
    have g_3 := (abf (dec_f c1))
    rw [h]
    exact sr (ids := []) (vs := [int check2]) (mem := []) (ac g_3 (ac (ocs c2) (ocl [0] [(0, .row 2 (vertices1.map cSpot))] [.own 0 0 ((vertices1.map cSpot).length)] (as_cons (at_row (List.length_map ..) rfl) as_nil) c3))) (by kernel_rfl) (by kernel_rfl) (rts_sc rfl)
theorem outline_Check_W (l : List Edge) (r0 : Int) (I0 : (List Spot) → Int → Prop) (M0 : (List Spot) → Int → Nat) (h : outline_Check_V l r0 I0 M0) (h0 : ∀ (end4 : List Spot) (v27 : Int), I0 end4 v27 → outline_Check_V0 l r0 I0 M0 end4 v27) : Ret Tryd.prog XS 19 [.sl 2 (l.map cEdge)] (int r0) := by
  refine fn_rule Tryd.func19 (by kernel_rfl) (by kernel_rfl) (by kernel_rfl) (by kernel_rfl) ?_
  have g_4 := (olen cEdge Tryd.prog 22 2 l (by kernel_rfl))
  by_cases c1 : ((l.length : Nat) : Int) > 16
  · have h := h.1 c1
    have g_5 := (abt (dec_t c1))
    rw [h]
    exact sr (ids := []) (vs := [int 5]) (mem := []) (ac g_4 g_5) (by kernel_rfl) (by kernel_rfl) (rts_sc rfl)
  · have h := h.2 c1
    have g_6 := (abf (dec_f c1))
    have e_7 := (ac g_6 g_4)
    by_cases c2 : ((l.length : Nat) : Int) < 2
    · have h := h.1 c2
      rw [h]
      exact sr (ids := []) (vs := [int 11]) (mem := []) (ac g_4 (ac e_7 (abt (dec_t c2)))) (by kernel_rfl) (by kernel_rfl) (rts_sc rfl)
    · have h := h.2 c2
      obtain ⟨edges1, c3, h⟩ := h
      have e_8 := (ac (abf (dec_f c2)) (ocs c3))
      by_cases c4 : edges1 = 0
      · have h := h.1 c4
        obtain ⟨c5, c6, h⟩ := h
        exact sl (ts := [0, 4, 25, 26, 27]) (ids := []) (d := 0) (s0 := ⟨[(0, .sl 2 (l.map cEdge)), (4, .sl 2 (((ai l (((l.length : Nat) : Int) - 1)).line).map cSpot)), (25, .sl 2 (l.map cEdge)), (26, int ((l.length : Nat) : Int)), (27, int 0)], [], 0⟩) (ac g_4 (ac e_7 (ac e_8 (ac (abf (bne_f c4)) (ac g_4 (ac (osub Tryd.prog 3 (wi64 c5)) (ac (oidx cEdge c6) g_4))))))) (by kernel_rfl) (by kernel_rfl) (Weak.anew [] (by rfl) (wt_cons rfl wk_sl (wt_cons rfl wk_sl (wt_cons rfl wk_sl (wt_cons rfl wk_sc (wt_cons rfl wk_sc wt_nil))))) wm_nil) (outline_Check_W0 l r0 I0 M0 h0 ((ai l (((l.length : Nat) : Int) - 1)).line, 0) h)
      · have h := h.2 c4
        rw [h]
        exact sr (ids := []) (vs := [int edges1]) (mem := []) (ac g_4 (ac e_7 (ac e_8 (abt (bne_t c4))))) (by kernel_rfl) (by kernel_rfl) (rts_sc rfl)

-- polyline.Length
-- garmentref21.Same
-- turn.Compose
-- turn.Inverse
-- grade.shifted
abbrev grade_shifted_V (s0 : Spot) (r0 : Bool) : Prop := ((s0.x ≥ (-1000) → ((s0.x ≤ 1000 → ((s0.y ≥ (-1000) → r0 = (decide (s0.y ≤ 1000))) ∧ (¬ (s0.y ≥ (-1000)) → r0 = false))) ∧ (¬ (s0.x ≤ 1000) → r0 = false))) ∧ (¬ (s0.x ≥ (-1000)) → r0 = false))
theorem grade_shifted_W (s0 : Spot) (r0 : Bool) (h : grade_shifted_V s0 r0) : Ret Tryd.prog XS 26 [.agg [int s0.x, int s0.y]] (boo r0) := by
  refine fn_rule Tryd.func26 (by kernel_rfl) (by kernel_rfl) (by kernel_rfl) (by kernel_rfl) ?_
  by_cases c1 : s0.x ≥ (-1000)
  · have h := h.1 c1
    have g_1 := (abt (dec_t c1))
    have e_2 := (ac g_1 (ac g_1 (ac g_1 g_1)))
    by_cases c2 : s0.x ≤ 1000
    · have h := h.1 c2
      have g_3 := (abt (dec_t c2))
      have e_4 := (ac g_3 (ac g_3 (ac g_3 g_3)))
      by_cases c3 : s0.y ≥ (-1000)
      · have h := h.1 c3
        have g_5 := (abt (dec_t c3))
        rw [h]
        exact sr (ids := []) (vs := [boo (decide (s0.y ≤ 1000))]) (mem := []) (ac e_2 (ac e_4 (ac g_5 (ac g_5 (ac g_5 g_5))))) (by kernel_rfl) (by kernel_rfl) (rts_sc rfl)
      · have h := h.2 c3
        have g_6 := (abf (dec_f c3))
        rw [h]
        exact sr (ids := []) (vs := [boo false]) (mem := []) (ac e_2 (ac e_4 (ac g_6 (ac g_6 (ac g_6 g_6))))) (by kernel_rfl) (by kernel_rfl) (rts_sc rfl)
    · have h := h.2 c2
      have g_7 := (abf (dec_f c2))
      rw [h]
      exact sr (ids := []) (vs := [boo false]) (mem := []) (ac e_2 (ac g_7 (ac g_7 (ac g_7 (ac g_7 (ac abff (ac abff (ac abff abff)))))))) (by kernel_rfl) (by kernel_rfl) (rts_sc rfl)
  · have h := h.2 c1
    have g_8 := (abf (dec_f c1))
    rw [h]
    exact sr (ids := []) (vs := [boo false]) (mem := []) (ac g_8 (ac g_8 (ac g_8 (ac g_8 (ac abff (ac abff (ac abff (ac abff (ac abff (ac abff (ac abff abff))))))))))) (by kernel_rfl) (by kernel_rfl) (rts_sc rfl)

-- (grade.times).move
abbrev grade_times_move_V (m : Int) (s1 : Spot) (r0 : Spot) : Prop := (InR (m * s1.x)) ∧ (InR (m * s1.y)) ∧ r0 = (⟨(m * s1.x), (m * s1.y)⟩ : Spot)
theorem grade_times_move_W (m : Int) (s1 : Spot) (r0 : Spot) (h : grade_times_move_V m s1 r0) : Ret Tryd.prog XS 27 [int m, .agg [int s1.x, int s1.y]] (.agg [int r0.x, int r0.y]) := by
  refine fn_rule Tryd.func27 (by kernel_rfl) (by kernel_rfl) (by kernel_rfl) (by kernel_rfl) ?_
  obtain ⟨c1, c2, h⟩ := h
  rw [h]
  exact sr (ids := []) (vs := [.agg [int (m * s1.x), int (m * s1.y)]]) (mem := []) (ac (omul Tryd.prog 3 (wi64 c1)) (omul Tryd.prog 3 (wi64 c2))) (by kernel_rfl) (by kernel_rfl) (rts_agg (rcs_sc (rcs_sc (rcs_nil rfl))))

end Go.Ab
end

section
namespace Go.Ab
open Go.Proofs
set_option maxRecDepth 100000
set_option linter.unusedVariables false
attribute [local irreducible] todoQ
-- grade.along
def grade_along_S0 (l : List Spot) (a : Spot) (b : Spot) (v19 : Int) (w8 : List Spot) : AS := ⟨[(4, .ptr 0 0 0), (5, .ptr 1 0 0), (7, int (((l.length : Nat) : Int) - 1)), (8, .own 2 0 w8.length), (17, .sl 2 (l.map cSpot)), (18, int ((l.length : Nat) : Int)), (19, int v19)], [(0, .box [int a.x, int a.y]), (1, .box [int b.x, int b.y]), (2, .row 2 (w8.map cSpot))], 3⟩
abbrev grade_along_V (l : List Spot) (a : Spot) (b : Spot) (r0 : List Spot) (I0 : Int → (List Spot) → Prop) (M0 : Int → (List Spot) → Nat) : Prop := (InR (((l.length : Nat) : Int) - 1)) ∧ (0 ≤ ((l.length : Nat) : Int)) ∧ (((l.length : Nat) : Int) * 16 ≤ 140737488355328) ∧ (((l.length : Nat) : Int) ≤ 9223372036854775807) ∧ I0 0 (List.replicate (((l.length : Nat) : Int) : Int).toNat (⟨0, 0⟩ : Spot))
abbrev grade_along_V0 (l : List Spot) (a : Spot) (b : Spot) (r0 : List Spot) (I0 : Int → (List Spot) → Prop) (M0 : Int → (List Spot) → Nat) (v19 : Int) (w8 : List Spot) : Prop := ((v19 < ((l.length : Nat) : Int) → (Idx v19 l.length) ∧ (InR ((((l.length : Nat) : Int) - 1) - v19)) ∧ (InR (((((l.length : Nat) : Int) - 1) - v19) * a.x)) ∧ (InR (v19 * b.x)) ∧ (InR ((((((l.length : Nat) : Int) - 1) - v19) * a.x) + (v19 * b.x))) ∧ (∃ (share1 : Int), Ret Tryd.prog XS 41 [int ((((((l.length : Nat) : Int) - 1) - v19) * a.x) + (v19 * b.x)), int (((l.length : Nat) : Int) - 1)] (int share1) ∧ (InR ((ai l v19).x + share1)) ∧ (InR (((((l.length : Nat) : Int) - 1) - v19) * a.y)) ∧ (InR (v19 * b.y)) ∧ (InR ((((((l.length : Nat) : Int) - 1) - v19) * a.y) + (v19 * b.y))) ∧ (∃ (share2 : Int), Ret Tryd.prog XS 41 [int ((((((l.length : Nat) : Int) - 1) - v19) * a.y) + (v19 * b.y)), int (((l.length : Nat) : Int) - 1)] (int share2) ∧ (InR ((ai l v19).y + share2)) ∧ (Idx v19 w8.length) ∧ (InR (v19 + 1)) ∧ I0 (v19 + 1) (w8.set (v19 : Int).toNat (⟨((ai l v19).x + share1), ((ai l v19).y + share2)⟩ : Spot)) ∧ M0 (v19 + 1) (w8.set (v19 : Int).toNat (⟨((ai l v19).x + share1), ((ai l v19).y + share2)⟩ : Spot)) < M0 v19 w8))) ∧ (¬ (v19 < ((l.length : Nat) : Int)) → r0 = w8))
theorem grade_along_W0 (l : List Spot) (a : Spot) (b : Spot) (r0 : List Spot) (I0 : Int → (List Spot) → Prop) (M0 : Int → (List Spot) → Nat) (h0 : ∀ (v19 : Int) (w8 : List Spot), I0 v19 w8 → grade_along_V0 l a b r0 I0 M0 v19 w8) : ∀ (x : Int × (List Spot)), I0 x.1 x.2 → loopQ Tryd.prog XS Tryd.f28 0 (.fr 2 (r0.map cSpot)) [] (grade_along_S0 l a b x.1 x.2) := by
  intro x0 hx0
  refine loop_rule (fun (x : Int × (List Spot)) => I0 x.1 x.2) (fun (x : Int × (List Spot)) => M0 x.1 x.2) (fun (x : Int × (List Spot)) => grade_along_S0 l a b x.1 x.2) x0 hx0 ?_
  rintro ⟨v19, w8⟩ hx
  have h := h0 v19 w8 hx
  clear hx hx0 x0
  by_cases c1 : v19 < ((l.length : Nat) : Int)
  · have h := h.1 c1
    obtain ⟨c2, c3, c4, c5, c6, share1, c7, c8, c9, c10, c11, share2, c12, c13, c14, c15, h⟩ := h
    have g_1 := (osub Tryd.prog 3 (wi64 c3))
    exact sb (ts := [4, 5, 7, 8, 17, 18, 19]) (ids := [0, 1, 2]) (d := 0) (s0 := ⟨[(4, .ptr 0 0 0), (5, .ptr 1 0 0), (7, int (((l.length : Nat) : Int) - 1)), (8, .own 2 0 w8.length), (17, .sl 2 (l.map cSpot)), (18, int ((l.length : Nat) : Int)), (19, int (v19 + 1))], [(0, .box [int a.x, int a.y]), (1, .box [int b.x, int b.y]), (2, .row 2 ((w8.set (v19 : Int).toNat (⟨((ai l v19).x + share1), ((ai l v19).y + share2)⟩ : Spot)).map cSpot))], 4⟩) (ac (abt (dec_t c1)) (ac (oidx cSpot c2) (ac g_1 (ac (omul Tryd.prog 3 (wi64 c4)) (ac (omul Tryd.prog 3 (wi64 c5)) (ac (oadd Tryd.prog 3 (wi64 c6)) (ac (ocs c7) (ac (oadd Tryd.prog 3 (wi64 c8)) (ac g_1 (ac (omul Tryd.prog 3 (wi64 c9)) (ac (omul Tryd.prog 3 (wi64 c10)) (ac (oadd Tryd.prog 3 (wi64 c11)) (ac (ocs c12) (ac (oadd Tryd.prog 3 (wi64 c13)) (ac (oown cSpot (n := w8.length) rfl c14) (ac (oset cSpot (⟨((ai l v19).x + share1), ((ai l v19).y + share2)⟩ : Spot) c14) (oadd Tryd.prog 3 (wi64 c15)))))))))))))))))) (by kernel_rfl) (by kernel_rfl) rfl ((v19 + 1), (w8.set (v19 : Int).toNat (⟨((ai l v19).x + share1), ((ai l v19).y + share2)⟩ : Spot))) h.1 h.2 (Weak.anew [(0, some 0), (1, some 1), (2, some 2)] (by rfl) (wt_cons rfl (wk_ptr rfl) (wt_cons rfl (wk_ptr rfl) (wt_cons rfl wk_sc (wt_cons rfl (wk_own rfl (by simp)) (wt_cons rfl wk_sl (wt_cons rfl wk_sc (wt_cons rfl wk_sc wt_nil))))))) (wm_box rfl rfl (wl_cons wk_sc (wl_cons wk_sc wl_nil)) (wm_box rfl rfl (wl_cons wk_sc (wl_cons wk_sc wl_nil)) (wm_row rfl rfl wm_nil))))
  · have h := h.2 c1
    rw [h]
    exact sr (ids := [2]) (vs := [.own 2 0 w8.length]) (mem := [(2, .row 2 (w8.map cSpot))]) (abf (dec_f c1)) (by kernel_rfl) (by kernel_rfl) (rts_own rfl rfl rfl rfl)
theorem grade_along_W (l : List Spot) (a : Spot) (b : Spot) (r0 : List Spot) (I0 : Int → (List Spot) → Prop) (M0 : Int → (List Spot) → Nat) (h : grade_along_V l a b r0 I0 M0) (h0 : ∀ (v19 : Int) (w8 : List Spot), I0 v19 w8 → grade_along_V0 l a b r0 I0 M0 v19 w8) : Ret Tryd.prog XS 28 [.sl 2 (l.map cSpot), .agg [int a.x, int a.y], .agg [int b.x, int b.y]] (.fr 2 (r0.map cSpot)) := by
  refine fn_rule Tryd.func28 (by kernel_rfl) (by kernel_rfl) (by kernel_rfl) (by kernel_rfl) ?_
  obtain ⟨c1, c2, c3, c4, h⟩ := h
  have g_2 := (olen cSpot Tryd.prog 24 2 l (by kernel_rfl))
  exact sl (ts := [4, 5, 7, 8, 17, 18, 19]) (ids := [0, 1, 2]) (d := 0) (s0 := ⟨[(4, .ptr 0 0 0), (5, .ptr 1 0 0), (7, int (((l.length : Nat) : Int) - 1)), (8, .own 2 0 ((List.replicate (((l.length : Nat) : Int) : Int).toNat (⟨0, 0⟩ : Spot)).length)), (17, .sl 2 (l.map cSpot)), (18, int ((l.length : Nat) : Int)), (19, int 0)], [(0, .box [int a.x, int a.y]), (1, .box [int b.x, int b.y]), (2, .row 2 ((List.replicate (((l.length : Nat) : Int) : Int).toNat (⟨0, 0⟩ : Spot)).map cSpot))], 3⟩) (ac g_2 (ac (osub Tryd.prog 3 (wi64 c1)) (ac g_2 (ac (omake cSpot (v := (⟨0, 0⟩ : Spot)) (z := [int 0, int 0]) (l := ((l.length : Nat) : Int)) (b := 16) rfl c2 c3 c4) g_2)))) (by kernel_rfl) (by kernel_rfl) (Weak.anew [(0, some 0), (1, some 1), (2, some 2)] (by rfl) (wt_cons rfl (wk_ptr rfl) (wt_cons rfl (wk_ptr rfl) (wt_cons rfl wk_sc (wt_cons rfl (wk_own rfl rfl) (wt_cons rfl wk_sl (wt_cons rfl wk_sc (wt_cons rfl wk_sc wt_nil))))))) (wm_box rfl rfl (wl_cons wk_sc (wl_cons wk_sc wl_nil)) (wm_box rfl rfl (wl_cons wk_sc (wl_cons wk_sc wl_nil)) (wm_row rfl rfl wm_nil)))) (grade_along_W0 l a b r0 I0 M0 h0 (0, (List.replicate (((l.length : Nat) : Int) : Int).toNat (⟨0, 0⟩ : Spot))) h)

-- turn.Apply
-- grade.mirrored
-- turn.Poly
-- outline.Polygon
-- polygon.Area2
-- outline.edges
def outline_edges_S0 (l : List Edge) (v8 : Int) : AS := ⟨[(0, .sl 2 (l.map cEdge)), (6, .sl 2 (l.map cEdge)), (7, int ((l.length : Nat) : Int)), (8, int v8)], [], 0⟩
abbrev outline_edges_V (l : List Edge) (r0 : Int) (I0 : Int → Prop) (M0 : Int → Nat) : Prop := I0 0
abbrev outline_edges_V0 (l : List Edge) (r0 : Int) (I0 : Int → Prop) (M0 : Int → Nat) (v8 : Int) : Prop := ((v8 < ((l.length : Nat) : Int) → (Idx v8 l.length) ∧ (∃ (named1 : Bool), Ret Tryd.prog XS 43 [str ((ai l v8).name)] (boo named1) ∧ ((named1 = true → (Slc 0 v8 l.length) ∧ (∃ (edge2 : Bool), Ret Tryd.prog XS 44 [.sl 2 ((cut l 0 v8).map cEdge), .fn 45 [] [.ref [str ((ai l v8).name), .sl 2 (((ai l v8).line).map cSpot)]]] (boo edge2) ∧ ((edge2 = true → r0 = 7) ∧ (edge2 = false → (∃ (check3 : Int), Ret Tryd.prog XS 38 [.sl 2 (((ai l v8).line).map cSpot)] (int check3) ∧ ((check3 = 0 → (InR (v8 + 1)) ∧ I0 (v8 + 1) ∧ M0 (v8 + 1) < M0 v8) ∧ (¬ (check3 = 0) → r0 = check3))))))) ∧ (named1 = false → r0 = 1)))) ∧ (¬ (v8 < ((l.length : Nat) : Int)) → r0 = 0))
theorem outline_edges_W0 (l : List Edge) (r0 : Int) (I0 : Int → Prop) (M0 : Int → Nat) (h0 : ∀ (v8 : Int), I0 v8 → outline_edges_V0 l r0 I0 M0 v8) : ∀ (x : Int), I0 x → loopQ Tryd.prog XS Tryd.f35 0 (int r0) [] (outline_edges_S0 l x) := by
  intro x0 hx0
  refine loop_rule (fun (x : Int) => I0 x) (fun (x : Int) => M0 x) (fun (x : Int) => outline_edges_S0 l x) x0 hx0 ?_
  intro v8 hx
  have h := h0 v8 hx
  clear hx hx0 x0
  by_cases c1 : v8 < ((l.length : Nat) : Int)
  · have h := h.1 c1
    obtain ⟨c2, named1, c3, h⟩ := h
    have e_1 := (ac (abt (dec_t c1)) (ac (oidx cEdge c2) (ocs c3)))
    rcases Bool.eq_false_or_eq_true named1 with c4 | c4
    · have h := h.1 c4
      obtain ⟨c5, edge2, c6, h⟩ := h
      have e_2 := (ac (abf (not_f c4)) (ac (ocut0 cEdge 2 c5) (ocl [0] [(0, .box [str ((ai l v8).name), .sl 2 (((ai l v8).line).map cSpot)])] [.sl 2 ((cut l 0 v8).map cEdge), .fn 45 [] [.ptr 0 0 0]] (as_cons (ArgTo.same rfl) (as_cons (at_fn as_nil (as_cons (at_ptr rfl (as_cons (ArgTo.same rfl) (as_cons (ArgTo.same rfl) as_nil))) as_nil)) as_nil)) c6)))
      rcases Bool.eq_false_or_eq_true edge2 with c7 | c7
      · have h := h.1 c7
        rw [h]
        exact sr (ids := []) (vs := [int 7]) (mem := []) (ac e_1 (ac e_2 (abt c7))) (by kernel_rfl) (by kernel_rfl) (rts_sc rfl)
      · have h := h.2 c7
        obtain ⟨check3, c8, h⟩ := h
        have e_3 := (ac (abf c7) (ocs c8))
        by_cases c9 : check3 = 0
        · have h := h.1 c9
          obtain ⟨c10, h⟩ := h
          exact sb (ts := [0, 6, 7, 8]) (ids := []) (d := 0) (s0 := ⟨[(0, .sl 2 (l.map cEdge)), (6, .sl 2 (l.map cEdge)), (7, int ((l.length : Nat) : Int)), (8, int (v8 + 1))], [], 1⟩) (ac e_1 (ac e_2 (ac e_3 (ac (abf (bne_f c9)) (oadd Tryd.prog 3 (wi64 c10)))))) (by kernel_rfl) (by kernel_rfl) rfl (v8 + 1) h.1 h.2 (Weak.anew [] (by rfl) (wt_cons rfl wk_sl (wt_cons rfl wk_sl (wt_cons rfl wk_sc (wt_cons rfl wk_sc wt_nil)))) wm_nil)
        · have h := h.2 c9
          rw [h]
          exact sr (ids := []) (vs := [int check3]) (mem := []) (ac e_1 (ac e_2 (ac e_3 (abt (bne_t c9))))) (by kernel_rfl) (by kernel_rfl) (rts_sc rfl)
    · have h := h.2 c4
      rw [h]
      exact sr (ids := []) (vs := [int 1]) (mem := []) (ac e_1 (abt (not_t c4))) (by kernel_rfl) (by kernel_rfl) (rts_sc rfl)
  · have h := h.2 c1
    rw [h]
    exact sr (ids := []) (vs := [int 0]) (mem := []) (abf (dec_f c1)) (by kernel_rfl) (by kernel_rfl) (rts_sc rfl)
theorem outline_edges_W (l : List Edge) (r0 : Int) (I0 : Int → Prop) (M0 : Int → Nat) (h : outline_edges_V l r0 I0 M0) (h0 : ∀ (v8 : Int), I0 v8 → outline_edges_V0 l r0 I0 M0 v8) : Ret Tryd.prog XS 35 [.sl 2 (l.map cEdge)] (int r0) := by
  refine fn_rule Tryd.func35 (by kernel_rfl) (by kernel_rfl) (by kernel_rfl) (by kernel_rfl) ?_
  exact sl (ts := [0, 6, 7, 8]) (ids := []) (d := 0) (s0 := ⟨[(0, .sl 2 (l.map cEdge)), (6, .sl 2 (l.map cEdge)), (7, int ((l.length : Nat) : Int)), (8, int 0)], [], 0⟩) (olen cEdge Tryd.prog 22 2 l (by kernel_rfl)) (by kernel_rfl) (by kernel_rfl) (Weak.anew [] (by rfl) (wt_cons rfl wk_sl (wt_cons rfl wk_sl (wt_cons rfl wk_sc (wt_cons rfl wk_sc wt_nil)))) wm_nil) (outline_edges_W0 l r0 I0 M0 h0 0 h)

end Go.Ab
end
