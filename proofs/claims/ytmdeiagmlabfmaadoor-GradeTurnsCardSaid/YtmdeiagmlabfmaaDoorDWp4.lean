/- A part of the proof. Conditions: those of each theorem. -/
import Derived.Test.YtmdeiagmlabfmaaDoorDTy
import Derived.Test.YtmdeiagmlabfmaaDoorDX
set_option linter.unusedVariables false
set_option linter.unusedSimpArgs false
set_option linter.unusedSectionVars false

section
namespace Go.Ab
open Go.Proofs
set_option maxRecDepth 100000
set_option linter.unusedVariables false
attribute [local irreducible] todoQ
-- garmentref21.SameEdges
def garmentref21_SameEdges_S0 (a : List Edge) (b : List Edge) (i5 : Int) : AS := ⟨[(0, .sl 2 (a.map cEdge)), (1, .sl 2 (b.map cEdge)), (5, int i5)], [], 0⟩
abbrev garmentref21_SameEdges_V (a : List Edge) (b : List Edge) (r0 : Bool) (I0 : Int → Prop) (M0 : Int → Nat) : Prop := ((((a.length : Nat) : Int) = ((b.length : Nat) : Int) → I0 0) ∧ (¬ (((a.length : Nat) : Int) = ((b.length : Nat) : Int)) → r0 = false))
abbrev garmentref21_SameEdges_V0 (a : List Edge) (b : List Edge) (r0 : Bool) (I0 : Int → Prop) (M0 : Int → Nat) (i5 : Int) : Prop := ((i5 < ((a.length : Nat) : Int) → (Idx i5 a.length) ∧ (Idx i5 b.length) ∧ (((ai a i5).name = (ai b i5).name → (∃ (same1 : Bool), Ret Tryd.prog XS 17 [.sl 2 (((ai a i5).line).map cSpot), .sl 2 (((ai b i5).line).map cSpot)] (boo same1) ∧ ((same1 = true → (InR (i5 + 1)) ∧ I0 (i5 + 1) ∧ M0 (i5 + 1) < M0 i5) ∧ (same1 = false → r0 = false)))) ∧ (¬ ((ai a i5).name = (ai b i5).name) → r0 = false))) ∧ (¬ (i5 < ((a.length : Nat) : Int)) → r0 = true))
theorem garmentref21_SameEdges_W0 (a : List Edge) (b : List Edge) (r0 : Bool) (I0 : Int → Prop) (M0 : Int → Nat) (h0 : ∀ (i5 : Int), I0 i5 → garmentref21_SameEdges_V0 a b r0 I0 M0 i5) : ∀ (x : Int), I0 x → loopQ Tryd.prog XS Tryd.f13 0 (boo r0) [] (garmentref21_SameEdges_S0 a b x) := by
  intro x0 hx0
  refine loop_rule (fun (x : Int) => I0 x) (fun (x : Int) => M0 x) (fun (x : Int) => garmentref21_SameEdges_S0 a b x) x0 hx0 ?_
  intro i5 hx
  have h := h0 i5 hx
  clear hx hx0 x0
  have g_1 := (olen cEdge Tryd.prog 22 2 a (by kernel_rfl))
  by_cases c1 : i5 < ((a.length : Nat) : Int)
  · have h := h.1 c1
    obtain ⟨c2, c3, h⟩ := h
    have g_2 := (oidx cEdge c2)
    have g_3 := (oidx cEdge c3)
    have e_4 := (ac (abt (dec_t c1)) (ac g_2 g_3))
    by_cases c4 : (ai a i5).name = (ai b i5).name
    · have h := h.1 c4
      obtain ⟨same1, c5, h⟩ := h
      have g_5 := (abf (not_f (streq_t c4)))
      have e_6 := (ac g_5 (ac g_5 (ac g_5 (ac g_2 (ac g_5 (ac g_5 (ac g_5 (ac g_5 (ac g_5 (ac g_3 (ac g_5 (ac g_5 (ac g_5 (ac (ocs c5) (ac g_5 g_5)))))))))))))))
      rcases Bool.eq_false_or_eq_true same1 with c6 | c6
      · have h := h.1 c6
        obtain ⟨c7, h⟩ := h
        exact sb (ts := [0, 1, 5]) (ids := []) (d := 0) (s0 := ⟨[(0, .sl 2 (a.map cEdge)), (1, .sl 2 (b.map cEdge)), (5, int (i5 + 1))], [], 0⟩) (ac g_1 (ac e_4 (ac e_6 (ac (abf (not_f c6)) (oadd Tryd.prog 3 (wi64 c7)))))) (by kernel_rfl) (by kernel_rfl) rfl (i5 + 1) h.1 h.2 (Weak.anew [] (by rfl) (wt_cons rfl wk_sl (wt_cons rfl wk_sl (wt_cons rfl wk_sc wt_nil))) wm_nil)
      · have h := h.2 c6
        rw [h]
        exact sr (ids := []) (vs := [boo false]) (mem := []) (ac g_1 (ac e_4 (ac e_6 (abt (not_t c6))))) (by kernel_rfl) (by kernel_rfl) (rts_sc rfl)
    · have h := h.2 c4
      have g_7 := (abt (not_t (streq_f c4)))
      rw [h]
      exact sr (ids := []) (vs := [boo false]) (mem := []) (ac g_1 (ac e_4 (ac g_7 (ac g_7 (ac g_7 (ac g_7 (ac g_7 (ac g_7 (ac g_7 (ac g_7 (ac g_7 (ac g_7 (ac g_7 (ac g_7 (ac g_7 abtt))))))))))))))) (by kernel_rfl) (by kernel_rfl) (rts_sc rfl)
  · have h := h.2 c1
    rw [h]
    exact sr (ids := []) (vs := [boo true]) (mem := []) (ac g_1 (abf (dec_f c1))) (by kernel_rfl) (by kernel_rfl) (rts_sc rfl)
theorem garmentref21_SameEdges_W (a : List Edge) (b : List Edge) (r0 : Bool) (I0 : Int → Prop) (M0 : Int → Nat) (h : garmentref21_SameEdges_V a b r0 I0 M0) (h0 : ∀ (i5 : Int), I0 i5 → garmentref21_SameEdges_V0 a b r0 I0 M0 i5) : Ret Tryd.prog XS 13 [.sl 2 (a.map cEdge), .sl 2 (b.map cEdge)] (boo r0) := by
  refine fn_rule Tryd.func13 (by kernel_rfl) (by kernel_rfl) (by kernel_rfl) (by kernel_rfl) ?_
  have g_8 := (olen cEdge Tryd.prog 22 2 a (by kernel_rfl))
  have e_9 := (ac g_8 (olen cEdge Tryd.prog 22 2 b (by kernel_rfl)))
  by_cases c1 : ((a.length : Nat) : Int) = ((b.length : Nat) : Int)
  · have h := h.1 c1
    exact sl (ts := [0, 1, 5]) (ids := []) (d := 0) (s0 := ⟨[(0, .sl 2 (a.map cEdge)), (1, .sl 2 (b.map cEdge)), (5, int 0)], [], 0⟩) (ac e_9 (abf (bne_f c1))) (by kernel_rfl) (by kernel_rfl) (Weak.anew [] (by rfl) (wt_cons rfl wk_sl (wt_cons rfl wk_sl (wt_cons rfl wk_sc wt_nil))) wm_nil) (garmentref21_SameEdges_W0 a b r0 I0 M0 h0 0 h)
  · have h := h.2 c1
    rw [h]
    exact sr (ids := []) (vs := [boo false]) (mem := []) (ac e_9 (abt (bne_t c1))) (by kernel_rfl) (by kernel_rfl) (rts_sc rfl)

-- outline.Turned
def outline_Turned_S0 (l : List Edge) (t1 : Turn) (out5 : List Edge) (v13 : Int) : AS := ⟨[(3, .ptr 0 0 0), (5, .own 1 0 out5.length), (11, .sl 2 (l.map cEdge)), (12, int ((l.length : Nat) : Int)), (13, int v13)], [(1, .row 2 (out5.map cEdge)), (0, .box [boo t1.flip, int t1.quarter])], 2⟩
abbrev outline_Turned_V (l : List Edge) (t1 : Turn) (r0 : List Edge) (I0 : (List Edge) → Int → Prop) (M0 : (List Edge) → Int → Nat) : Prop := (0 ≤ ((l.length : Nat) : Int)) ∧ (((l.length : Nat) : Int) * 40 ≤ 140737488355328) ∧ (((l.length : Nat) : Int) ≤ 9223372036854775807) ∧ I0 ([] : List Edge) 0
abbrev outline_Turned_V0 (l : List Edge) (t1 : Turn) (r0 : List Edge) (I0 : (List Edge) → Int → Prop) (M0 : (List Edge) → Int → Nat) (out5 : List Edge) (v13 : Int) : Prop := ((v13 < ((l.length : Nat) : Int) → (Idx v13 l.length) ∧ (∃ (poly1 : List Spot), Ret Tryd.prog XS 31 [.agg [boo t1.flip, int t1.quarter], .sl 2 (((ai l v13).line).map cSpot)] (.fr 2 (poly1.map cSpot)) ∧ (Cap 40 (out5 ++ ([(⟨(ai l v13).name, poly1⟩ : Edge)] : List Edge)).length) ∧ (InR (v13 + 1)) ∧ I0 (out5 ++ ([(⟨(ai l v13).name, poly1⟩ : Edge)] : List Edge)) (v13 + 1) ∧ M0 (out5 ++ ([(⟨(ai l v13).name, poly1⟩ : Edge)] : List Edge)) (v13 + 1) < M0 out5 v13)) ∧ (¬ (v13 < ((l.length : Nat) : Int)) → ((t1.flip = true → ((((out5.length : Nat) : Int) > 1 → ((0 : Int) ≤ 1 ∧ (1 : Int) < ((out5.length : Nat) : Int)) ∧ (MutOk ((1 : Int).toNat) ((((out5.length : Nat) : Int) - 1).toNat) out5.length) ∧ r0 = (turnd out5 ((1 : Int).toNat) ((((out5.length : Nat) : Int) - 1).toNat))) ∧ (¬ (((out5.length : Nat) : Int) > 1) → r0 = out5))) ∧ (t1.flip = false → r0 = out5))))
theorem outline_Turned_W0 (l : List Edge) (t1 : Turn) (r0 : List Edge) (I0 : (List Edge) → Int → Prop) (M0 : (List Edge) → Int → Nat) (h0 : ∀ (out5 : List Edge) (v13 : Int), I0 out5 v13 → outline_Turned_V0 l t1 r0 I0 M0 out5 v13) : ∀ (x : (List Edge) × Int), I0 x.1 x.2 → loopQ Tryd.prog XS Tryd.f14 0 (.fr 2 (r0.map cEdge)) [] (outline_Turned_S0 l t1 x.1 x.2) := by
  intro x0 hx0
  refine loop_rule (fun (x : (List Edge) × Int) => I0 x.1 x.2) (fun (x : (List Edge) × Int) => M0 x.1 x.2) (fun (x : (List Edge) × Int) => outline_Turned_S0 l t1 x.1 x.2) x0 hx0 ?_
  rintro ⟨out5, v13⟩ hx
  have h := h0 out5 v13 hx
  clear hx hx0 x0
  by_cases c1 : v13 < ((l.length : Nat) : Int)
  · have h := h.1 c1
    obtain ⟨c2, poly1, c3, c4, c5, h⟩ := h
    exact sb (ts := [3, 5, 11, 12, 13]) (ids := [5, 0]) (d := 0) (s0 := ⟨[(3, .ptr 0 0 0), (5, .own 5 0 ((out5 ++ ([(⟨(ai l v13).name, poly1⟩ : Edge)] : List Edge)).length)), (11, .sl 2 (l.map cEdge)), (12, int ((l.length : Nat) : Int)), (13, int (v13 + 1))], [(5, .row 2 ((out5 ++ ([(⟨(ai l v13).name, poly1⟩ : Edge)] : List Edge)).map cEdge)), (0, .box [boo t1.flip, int t1.quarter])], 6⟩) (ac (abt (dec_t c1)) (ac (oidx cEdge c2) (ac (ocs c3) (ac (ofz cSpot poly1 (n := (poly1.map cSpot).length) (List.length_map ..)) (ac (oappo cEdge (n := out5.length) (m := ([(⟨(ai l v13).name, poly1⟩ : Edge)] : List Edge).length) rfl rfl c4) (oadd Tryd.prog 3 (wi64 c5))))))) (by kernel_rfl) (by kernel_rfl) rfl ((out5 ++ ([(⟨(ai l v13).name, poly1⟩ : Edge)] : List Edge)), (v13 + 1)) h.1 h.2 (Weak.anew [(1, some 5), (0, some 0)] (by rfl) (wt_cons rfl (wk_ptr rfl) (wt_cons rfl (wk_own rfl rfl) (wt_cons rfl wk_sl (wt_cons rfl wk_sc (wt_cons rfl wk_sc wt_nil))))) (wm_row rfl rfl (wm_box rfl rfl (wl_cons wk_sc (wl_cons wk_sc wl_nil)) wm_nil)))
  · have h := h.2 c1
    have e_1 := (abf (dec_f c1))
    rcases Bool.eq_false_or_eq_true t1.flip with c2 | c2
    · have h := h.1 c2
      have e_2 := (ac (abt c2) (ac (abt c2) (ac (oleno Tryd.prog 22 1 0 out5.length out5.length rfl (by kernel_rfl)) (ac (abt c2) (abt c2)))))
      by_cases c3 : ((out5.length : Nat) : Int) > 1
      · have h := h.1 c3
        obtain ⟨c4, c5, h⟩ := h
        rw [h]
        exact sr (ids := [1]) (vs := [.own 1 0 out5.length]) (mem := [(1, .row 2 ((turnd out5 ((1 : Int).toNat) ((((out5.length : Nat) : Int) - 1).toNat)).map cEdge))]) (ac e_1 (ac e_2 (ac (abt (dec_t c3)) (ac (At.mk (allc (ob_osl rfl c4) alln) : At [.val (.own 1 ((1 : Int).toNat) ((((out5.length : Nat) : Int) - 1).toNat))] [(0 : Int) ≤ 1 ∧ 1 ≤ ((out5.length : Nat) : Int) ∧ ((out5.length : Nat) : Int) ≤ ((out5.length : Nat) : Int) ∧ 0 < (out5.map cEdge).length ∧ ((1 : Int) = 0 ∨ 1 < ((out5.length : Nat) : Int)) ∧ 0 + (1 : Int).toNat = (1 : Int).toNat ∧ (((out5.length : Nat) : Int) - 1).toNat = (((out5.length : Nat) : Int) - 1).toNat]) (At.mk (allc (ob_mut c5 xs_rev32) alln) : At [.mut ((turnd out5 ((1 : Int).toNat) ((((out5.length : Nat) : Int) - 1).toNat)).map cEdge)] [∃ ys, ((1 : Int).toNat) + ((((out5.length : Nat) : Int) - 1).toNat) ≤ (out5.map cEdge).length ∧ (0 < ((((out5.length : Nat) : Int) - 1).toNat) ∧ ((((out5.length : Nat) : Int) - 1).toNat) ≤ 9223372036854775807) ∧ Ret Tryd.prog XS 32 [.fr 2 (((out5.map cEdge).drop ((1 : Int).toNat)).take ((((out5.length : Nat) : Int) - 1).toNat))] (.fr 2 ys) ∧ (out5.map cEdge).take ((1 : Int).toNat) ++ ys ++ (out5.map cEdge).drop (((1 : Int).toNat) + ((((out5.length : Nat) : Int) - 1).toNat)) = ((turnd out5 ((1 : Int).toNat) ((((out5.length : Nat) : Int) - 1).toNat)).map cEdge)]))))) (by kernel_rfl) (by kernel_rfl) (rts_own (by simp) rfl rfl rfl)
      · have h := h.2 c3
        rw [h]
        exact sr (ids := [1]) (vs := [.own 1 0 out5.length]) (mem := [(1, .row 2 (out5.map cEdge))]) (ac e_1 (ac e_2 (abf (dec_f c3)))) (by kernel_rfl) (by kernel_rfl) (rts_own rfl rfl rfl rfl)
    · have h := h.2 c2
      rw [h]
      exact sr (ids := [1]) (vs := [.own 1 0 out5.length]) (mem := [(1, .row 2 (out5.map cEdge))]) (ac e_1 (ac (abf c2) (ac (abf c2) (ac (abf c2) (ac (abf c2) abff))))) (by kernel_rfl) (by kernel_rfl) (rts_own rfl rfl rfl rfl)
theorem outline_Turned_W (l : List Edge) (t1 : Turn) (r0 : List Edge) (I0 : (List Edge) → Int → Prop) (M0 : (List Edge) → Int → Nat) (h : outline_Turned_V l t1 r0 I0 M0) (h0 : ∀ (out5 : List Edge) (v13 : Int), I0 out5 v13 → outline_Turned_V0 l t1 r0 I0 M0 out5 v13) : Ret Tryd.prog XS 14 [.sl 2 (l.map cEdge), .agg [boo t1.flip, int t1.quarter]] (.fr 2 (r0.map cEdge)) := by
  refine fn_rule Tryd.func14 (by kernel_rfl) (by kernel_rfl) (by kernel_rfl) (by kernel_rfl) ?_
  obtain ⟨c1, c2, c3, h⟩ := h
  have g_3 := (olen cEdge Tryd.prog 22 2 l (by kernel_rfl))
  exact sl (ts := [3, 5, 11, 12, 13]) (ids := [1, 0]) (d := 0) (s0 := ⟨[(3, .ptr 0 0 0), (5, .own 1 0 (([] : List Edge).length)), (11, .sl 2 (l.map cEdge)), (12, int ((l.length : Nat) : Int)), (13, int 0)], [(1, .row 2 (([] : List Edge).map cEdge)), (0, .box [boo t1.flip, int t1.quarter])], 2⟩) (ac g_3 (ac (At.mk (allc (ob_make0 c1 c2 c3) alln) : At [.rows ([] : List Edge).length (([] : List Edge).map cEdge)] [(0 : Int) ≤ ((l.length : Nat) : Int) ∧ (0 : Int) ≤ 0 ∧ ((l.length : Nat) : Int) * 40 ≤ (lim : Int) ∧ ((l.length : Nat) : Int) ≤ 9223372036854775807 ∧ (0 : Int).toNat = ([] : List Edge).length ∧ List.replicate ([] : List Edge).length [str ByteArray.empty, .nil] = (([] : List Edge).map cEdge)]) g_3)) (by kernel_rfl) (by kernel_rfl) (Weak.anew [(1, some 1), (0, some 0)] (by rfl) (wt_cons rfl (wk_ptr rfl) (wt_cons rfl (wk_own rfl rfl) (wt_cons rfl wk_sl (wt_cons rfl wk_sc (wt_cons rfl wk_sc wt_nil))))) (wm_row rfl rfl (wm_box rfl rfl (wl_cons wk_sc (wl_cons wk_sc wl_nil)) wm_nil))) (outline_Turned_W0 l t1 r0 I0 M0 h0 (([] : List Edge), 0) h)

-- grade.Areas
-- garmentref21.SameInts
-- garmentref11.Same
def garmentref11_Same_S0 (a : List Spot) (b : List Spot) (i5 : Int) : AS := ⟨[(0, .sl 2 (a.map cSpot)), (1, .sl 2 (b.map cSpot)), (5, int i5)], [], 0⟩
abbrev garmentref11_Same_V (a : List Spot) (b : List Spot) (r0 : Bool) (I0 : Int → Prop) (M0 : Int → Nat) : Prop := ((((a.length : Nat) : Int) = ((b.length : Nat) : Int) → I0 0) ∧ (¬ (((a.length : Nat) : Int) = ((b.length : Nat) : Int)) → r0 = false))
abbrev garmentref11_Same_V0 (a : List Spot) (b : List Spot) (r0 : Bool) (I0 : Int → Prop) (M0 : Int → Nat) (i5 : Int) : Prop := ((i5 < ((a.length : Nat) : Int) → (Idx i5 a.length) ∧ (Idx i5 b.length) ∧ (((ai a i5) = (ai b i5) → (InR (i5 + 1)) ∧ I0 (i5 + 1) ∧ M0 (i5 + 1) < M0 i5) ∧ (¬ ((ai a i5) = (ai b i5)) → r0 = false))) ∧ (¬ (i5 < ((a.length : Nat) : Int)) → r0 = true))
theorem garmentref11_Same_W0 (a : List Spot) (b : List Spot) (r0 : Bool) (I0 : Int → Prop) (M0 : Int → Nat) (h0 : ∀ (i5 : Int), I0 i5 → garmentref11_Same_V0 a b r0 I0 M0 i5) : ∀ (x : Int), I0 x → loopQ Tryd.prog XS Tryd.f17 0 (boo r0) [] (garmentref11_Same_S0 a b x) := by
  intro x0 hx0
  refine loop_rule (fun (x : Int) => I0 x) (fun (x : Int) => M0 x) (fun (x : Int) => garmentref11_Same_S0 a b x) x0 hx0 ?_
  intro i5 hx
  have h := h0 i5 hx
  clear hx hx0 x0
  have g_1 := (olen cSpot Tryd.prog 24 2 a (by kernel_rfl))
  by_cases c1 : i5 < ((a.length : Nat) : Int)
  · have h := h.1 c1
    obtain ⟨c2, c3, h⟩ := h
    have e_2 := (ac (abt (dec_t c1)) (ac (oidx cSpot c2) (oidx cSpot c3)))
    by_cases c4 : (ai a i5) = (ai b i5)
    · have h := h.1 c4
      obtain ⟨c5, h⟩ := h
      exact sb (ts := [0, 1, 5]) (ids := []) (d := 0) (s0 := ⟨[(0, .sl 2 (a.map cSpot)), (1, .sl 2 (b.map cSpot)), (5, int (i5 + 1))], [], 0⟩) (ac g_1 (ac e_2 (ac (abf (not_f (sSpot_t c4))) (oadd Tryd.prog 3 (wi64 c5))))) (by kernel_rfl) (by kernel_rfl) rfl (i5 + 1) h.1 h.2 (Weak.anew [] (by rfl) (wt_cons rfl wk_sl (wt_cons rfl wk_sl (wt_cons rfl wk_sc wt_nil))) wm_nil)
    · have h := h.2 c4
      rw [h]
      exact sr (ids := []) (vs := [boo false]) (mem := []) (ac g_1 (ac e_2 (abt (not_t (sSpot_f c4))))) (by kernel_rfl) (by kernel_rfl) (rts_sc rfl)
  · have h := h.2 c1
    rw [h]
    exact sr (ids := []) (vs := [boo true]) (mem := []) (ac g_1 (abf (dec_f c1))) (by kernel_rfl) (by kernel_rfl) (rts_sc rfl)
theorem garmentref11_Same_W (a : List Spot) (b : List Spot) (r0 : Bool) (I0 : Int → Prop) (M0 : Int → Nat) (h : garmentref11_Same_V a b r0 I0 M0) (h0 : ∀ (i5 : Int), I0 i5 → garmentref11_Same_V0 a b r0 I0 M0 i5) : Ret Tryd.prog XS 17 [.sl 2 (a.map cSpot), .sl 2 (b.map cSpot)] (boo r0) := by
  refine fn_rule Tryd.func17 (by kernel_rfl) (by kernel_rfl) (by kernel_rfl) (by kernel_rfl) ?_
  have g_3 := (olen cSpot Tryd.prog 24 2 a (by kernel_rfl))
  have e_4 := (ac g_3 (olen cSpot Tryd.prog 24 2 b (by kernel_rfl)))
  by_cases c1 : ((a.length : Nat) : Int) = ((b.length : Nat) : Int)
  · have h := h.1 c1
    exact sl (ts := [0, 1, 5]) (ids := []) (d := 0) (s0 := ⟨[(0, .sl 2 (a.map cSpot)), (1, .sl 2 (b.map cSpot)), (5, int 0)], [], 0⟩) (ac e_4 (abf (bne_f c1))) (by kernel_rfl) (by kernel_rfl) (Weak.anew [] (by rfl) (wt_cons rfl wk_sl (wt_cons rfl wk_sl (wt_cons rfl wk_sc wt_nil))) wm_nil) (garmentref11_Same_W0 a b r0 I0 M0 h0 0 h)
  · have h := h.2 c1
    rw [h]
    exact sr (ids := []) (vs := [boo false]) (mem := []) (ac e_4 (abt (bne_t c1))) (by kernel_rfl) (by kernel_rfl) (rts_sc rfl)

-- polyline.Move
end Go.Ab
end

section
namespace Go.Ab
open Go.Proofs
set_option maxRecDepth 100000
set_option linter.unusedVariables false
attribute [local irreducible] todoQ
-- outline.Check
def outline_Check_S0 (l : List Edge) (end4 : List Spot) (v27 : Int) : AS := ⟨[(0, .sl 2 (l.map cEdge)), (4, .sl 2 (end4.map cSpot)), (25, .sl 2 (l.map cEdge)), (26, int ((l.length : Nat) : Int)), (27, int v27)], [], 0⟩
abbrev outline_Check_V (l : List Edge) (r0 : Int) (I0 : (List Spot) → Int → Prop) (M0 : (List Spot) → Int → Nat) : Prop := ((((l.length : Nat) : Int) > 16 → r0 = 5) ∧ (¬ (((l.length : Nat) : Int) > 16) → ((((l.length : Nat) : Int) < 2 → r0 = 11) ∧ (¬ (((l.length : Nat) : Int) < 2) → (∃ (edges1 : Int), Ret Tryd.prog XS 35 [.sl 2 (l.map cEdge)] (int edges1) ∧ ((edges1 = 0 → (InR (((l.length : Nat) : Int) - 1)) ∧ (Idx (((l.length : Nat) : Int) - 1) l.length) ∧ I0 ((ai l (((l.length : Nat) : Int) - 1)).line) 0) ∧ (¬ (edges1 = 0) → r0 = edges1)))))))
abbrev outline_Check_V0 (l : List Edge) (r0 : Int) (I0 : (List Spot) → Int → Prop) (M0 : (List Spot) → Int → Nat) (end4 : List Spot) (v27 : Int) : Prop := ((v27 < ((l.length : Nat) : Int) → (Idx v27 l.length) ∧ (InR (((end4.length : Nat) : Int) - 1)) ∧ (Idx (((end4.length : Nat) : Int) - 1) end4.length) ∧ (Idx 0 ((ai l v27).line).length) ∧ (((ai end4 (((end4.length : Nat) : Int) - 1)) = (ai ((ai l v27).line) 0) → (InR (v27 + 1)) ∧ I0 ((ai l v27).line) (v27 + 1) ∧ M0 ((ai l v27).line) (v27 + 1) < M0 end4 v27) ∧ (¬ ((ai end4 (((end4.length : Nat) : Int) - 1)) = (ai ((ai l v27).line) 0)) → r0 = 11))) ∧ (¬ (v27 < ((l.length : Nat) : Int)) → (∃ (vertices1 : List Spot), Ret Tryd.prog XS 37 [.sl 2 (l.map cEdge)] (.fr 2 (vertices1.map cSpot)) ∧ (∃ (check2 : Int), Ret Tryd.prog XS 36 [.sl 2 (vertices1.map cSpot)] (int check2) ∧ r0 = check2))))
theorem outline_Check_W0 (l : List Edge) (r0 : Int) (I0 : (List Spot) → Int → Prop) (M0 : (List Spot) → Int → Nat) (h0 : ∀ (end4 : List Spot) (v27 : Int), I0 end4 v27 → outline_Check_V0 l r0 I0 M0 end4 v27) : ∀ (x : (List Spot) × Int), I0 x.1 x.2 → loopQ Tryd.prog XS Tryd.f19 0 (int r0) [] (outline_Check_S0 l x.1 x.2) := by
  intro x0 hx0
  refine loop_rule (fun (x : (List Spot) × Int) => I0 x.1 x.2) (fun (x : (List Spot) × Int) => M0 x.1 x.2) (fun (x : (List Spot) × Int) => outline_Check_S0 l x.1 x.2) x0 hx0 ?_
  rintro ⟨end4, v27⟩ hx
  have h := h0 end4 v27 hx
  clear hx hx0 x0
  by_cases c1 : v27 < ((l.length : Nat) : Int)
  · have h := h.1 c1
    obtain ⟨c2, c3, c4, c5, h⟩ := h
    have g_1 := (abt (dec_t c1))
    have e_2 := (ac g_1 (ac (oidx cEdge c2) (ac (olen cSpot Tryd.prog 24 2 end4 (by kernel_rfl)) (ac (osub Tryd.prog 3 (wi64 c3)) (ac (oidx cSpot c4) (oidx cSpot c5))))))
    by_cases c6 : (ai end4 (((end4.length : Nat) : Int) - 1)) = (ai ((ai l v27).line) 0)
    · have h := h.1 c6
      obtain ⟨c7, h⟩ := h
      exact sb (ts := [0, 4, 25, 26, 27]) (ids := []) (d := 0) (s0 := ⟨[(0, .sl 2 (l.map cEdge)), (4, .sl 2 (((ai l v27).line).map cSpot)), (25, .sl 2 (l.map cEdge)), (26, int ((l.length : Nat) : Int)), (27, int (v27 + 1))], [], 1⟩) (ac e_2 (ac (abf (not_f (sSpot_t c6))) (oadd Tryd.prog 3 (wi64 c7)))) (by kernel_rfl) (by kernel_rfl) rfl ((ai l v27).line, (v27 + 1)) h.1 h.2 (Weak.anew [] (by rfl) (wt_cons rfl wk_sl (wt_cons rfl wk_sl (wt_cons rfl wk_sl (wt_cons rfl wk_sc (wt_cons rfl wk_sc wt_nil))))) wm_nil)
    · have h := h.2 c6
      rw [h]
      exact sr (ids := []) (vs := [int 11]) (mem := []) (ac e_2 (abt (not_t (sSpot_f c6)))) (by kernel_rfl) (by kernel_rfl) (rts_sc rfl)
  · have h := h.2 c1
    obtain ⟨vertices1, c2, check2, c3, h⟩ := h
    have g_3 := (abf (dec_f c1))
    rw [h]
    exact sr (ids := []) (vs := [int check2]) (mem := []) (ac g_3 (ac (ocs c2) (ocl [0] [(0, .row 2 (vertices1.map cSpot))] [.own 0 0 ((vertices1.map cSpot).length)] (as_cons (at_row (List.length_map ..) rfl) as_nil) c3))) (by kernel_rfl) (by kernel_rfl) (rts_sc rfl)
theorem outline_Check_W (l : List Edge) (r0 : Int) (I0 : (List Spot) → Int → Prop) (M0 : (List Spot) → Int → Nat) (h : outline_Check_V l r0 I0 M0) (h0 : ∀ (end4 : List Spot) (v27 : Int), I0 end4 v27 → outline_Check_V0 l r0 I0 M0 end4 v27) : Ret Tryd.prog XS 19 [.sl 2 (l.map cEdge)] (int r0) := by
  refine fn_rule Tryd.func19 (by kernel_rfl) (by kernel_rfl) (by kernel_rfl) (by kernel_rfl) ?_
  have g_4 := (olen cEdge Tryd.prog 22 2 l (by kernel_rfl))
  by_cases c1 : ((l.length : Nat) : Int) > 16
  · have h := h.1 c1
    have g_5 := (abt (dec_t c1))
    rw [h]
    exact sr (ids := []) (vs := [int 5]) (mem := []) (ac g_4 g_5) (by kernel_rfl) (by kernel_rfl) (rts_sc rfl)
  · have h := h.2 c1
    have g_6 := (abf (dec_f c1))
    have e_7 := (ac g_6 g_4)
    by_cases c2 : ((l.length : Nat) : Int) < 2
    · have h := h.1 c2
      rw [h]
      exact sr (ids := []) (vs := [int 11]) (mem := []) (ac g_4 (ac e_7 (abt (dec_t c2)))) (by kernel_rfl) (by kernel_rfl) (rts_sc rfl)
    · have h := h.2 c2
      obtain ⟨edges1, c3, h⟩ := h
      have e_8 := (ac (abf (dec_f c2)) (ocs c3))
      by_cases c4 : edges1 = 0
      · have h := h.1 c4
        obtain ⟨c5, c6, h⟩ := h
        exact sl (ts := [0, 4, 25, 26, 27]) (ids := []) (d := 0) (s0 := ⟨[(0, .sl 2 (l.map cEdge)), (4, .sl 2 (((ai l (((l.length : Nat) : Int) - 1)).line).map cSpot)), (25, .sl 2 (l.map cEdge)), (26, int ((l.length : Nat) : Int)), (27, int 0)], [], 0⟩) (ac g_4 (ac e_7 (ac e_8 (ac (abf (bne_f c4)) (ac g_4 (ac (osub Tryd.prog 3 (wi64 c5)) (ac (oidx cEdge c6) g_4))))))) (by kernel_rfl) (by kernel_rfl) (Weak.anew [] (by rfl) (wt_cons rfl wk_sl (wt_cons rfl wk_sl (wt_cons rfl wk_sl (wt_cons rfl wk_sc (wt_cons rfl wk_sc wt_nil))))) wm_nil) (outline_Check_W0 l r0 I0 M0 h0 ((ai l (((l.length : Nat) : Int) - 1)).line, 0) h)
      · have h := h.2 c4
        rw [h]
        exact sr (ids := []) (vs := [int edges1]) (mem := []) (ac g_4 (ac e_7 (ac e_8 (abt (bne_t c4))))) (by kernel_rfl) (by kernel_rfl) (rts_sc rfl)

-- polyline.Length
def polyline_Length_S0 (l : List Spot) (n5 : Int) (i6 : Int) : AS := ⟨[(0, .sl 2 (l.map cSpot)), (5, int n5), (6, int i6)], [], 0⟩
abbrev polyline_Length_V (l : List Spot) (r0 : Int) (r1 : Int) (I0 : Int → Int → Prop) (M0 : Int → Int → Nat) : Prop := (∃ (check1 : Int), Ret Tryd.prog XS 38 [.sl 2 (l.map cSpot)] (int check1) ∧ ((check1 = 0 → I0 0 1) ∧ (¬ (check1 = 0) → r0 = 0 ∧ r1 = check1)))
abbrev polyline_Length_V0 (l : List Spot) (r0 : Int) (r1 : Int) (I0 : Int → Int → Prop) (M0 : Int → Int → Nat) (n5 : Int) (i6 : Int) : Prop := ((i6 < ((l.length : Nat) : Int) → (InR (i6 - 1)) ∧ (Idx (i6 - 1) l.length) ∧ (Idx i6 l.length) ∧ (∃ (segment1 : Int), Ret Tryd.prog XS 39 [.agg [int ((ai l (i6 - 1)).x), int ((ai l (i6 - 1)).y)], .agg [int ((ai l i6).x), int ((ai l i6).y)]] (int segment1) ∧ (InR (n5 + segment1)) ∧ (InR (i6 + 1)) ∧ I0 (n5 + segment1) (i6 + 1) ∧ M0 (n5 + segment1) (i6 + 1) < M0 n5 i6)) ∧ (¬ (i6 < ((l.length : Nat) : Int)) → r0 = n5 ∧ r1 = 0))
theorem polyline_Length_W0 (l : List Spot) (r0 : Int) (r1 : Int) (I0 : Int → Int → Prop) (M0 : Int → Int → Nat) (h0 : ∀ (n5 : Int) (i6 : Int), I0 n5 i6 → polyline_Length_V0 l r0 r1 I0 M0 n5 i6) : ∀ (x : Int × Int), I0 x.1 x.2 → loopQ Tryd.prog XS Tryd.f20 0 (.tup [int r0, int r1]) [] (polyline_Length_S0 l x.1 x.2) := by
  intro x0 hx0
  refine loop_rule (fun (x : Int × Int) => I0 x.1 x.2) (fun (x : Int × Int) => M0 x.1 x.2) (fun (x : Int × Int) => polyline_Length_S0 l x.1 x.2) x0 hx0 ?_
  rintro ⟨n5, i6⟩ hx
  have h := h0 n5 i6 hx
  clear hx hx0 x0
  have e_1 := (olen cSpot Tryd.prog 24 2 l (by kernel_rfl))
  by_cases c1 : i6 < ((l.length : Nat) : Int)
  · have h := h.1 c1
    obtain ⟨c2, c3, c4, segment1, c5, c6, c7, h⟩ := h
    exact sb (ts := [0, 5, 6]) (ids := []) (d := 0) (s0 := ⟨[(0, .sl 2 (l.map cSpot)), (5, int (n5 + segment1)), (6, int (i6 + 1))], [], 0⟩) (ac e_1 (ac (abt (dec_t c1)) (ac (osub Tryd.prog 3 (wi64 c2)) (ac (oidx cSpot c3) (ac (oidx cSpot c4) (ac (ocs c5) (ac (oadd Tryd.prog 3 (wi64 c6)) (oadd Tryd.prog 3 (wi64 c7))))))))) (by kernel_rfl) (by kernel_rfl) rfl ((n5 + segment1), (i6 + 1)) h.1 h.2 (Weak.anew [] (by rfl) (wt_cons rfl wk_sl (wt_cons rfl wk_sc (wt_cons rfl wk_sc wt_nil))) wm_nil)
  · have h := h.2 c1
    rw [h.1, h.2]
    exact sr (ids := []) (vs := [int n5, int 0]) (mem := []) (ac e_1 (abf (dec_f c1))) (by kernel_rfl) (by kernel_rfl) (rts_sc (rts_sc rfl))
theorem polyline_Length_W (l : List Spot) (r0 : Int) (r1 : Int) (I0 : Int → Int → Prop) (M0 : Int → Int → Nat) (h : polyline_Length_V l r0 r1 I0 M0) (h0 : ∀ (n5 : Int) (i6 : Int), I0 n5 i6 → polyline_Length_V0 l r0 r1 I0 M0 n5 i6) : Ret Tryd.prog XS 20 [.sl 2 (l.map cSpot)] (.tup [int r0, int r1]) := by
  refine fn_rule Tryd.func20 (by kernel_rfl) (by kernel_rfl) (by kernel_rfl) (by kernel_rfl) ?_
  obtain ⟨check1, c1, h⟩ := h
  have e_2 := (ocs c1)
  by_cases c2 : check1 = 0
  · have h := h.1 c2
    exact sl (ts := [0, 5, 6]) (ids := []) (d := 0) (s0 := ⟨[(0, .sl 2 (l.map cSpot)), (5, int 0), (6, int 1)], [], 0⟩) (ac e_2 (abf (bne_f c2))) (by kernel_rfl) (by kernel_rfl) (Weak.anew [] (by rfl) (wt_cons rfl wk_sl (wt_cons rfl wk_sc (wt_cons rfl wk_sc wt_nil))) wm_nil) (polyline_Length_W0 l r0 r1 I0 M0 h0 (0, 1) h)
  · have h := h.2 c2
    rw [h.1, h.2]
    exact sr (ids := []) (vs := [int 0, int check1]) (mem := []) (ac e_2 (abt (bne_t c2))) (by kernel_rfl) (by kernel_rfl) (rts_sc (rts_sc rfl))

-- garmentref21.Same
-- turn.Compose
-- turn.Inverse
-- grade.shifted
abbrev grade_shifted_V (s0 : Spot) (r0 : Bool) : Prop := ((s0.x ≥ (-1000) → ((s0.x ≤ 1000 → ((s0.y ≥ (-1000) → r0 = (decide (s0.y ≤ 1000))) ∧ (¬ (s0.y ≥ (-1000)) → r0 = false))) ∧ (¬ (s0.x ≤ 1000) → r0 = false))) ∧ (¬ (s0.x ≥ (-1000)) → r0 = false))
theorem grade_shifted_W (s0 : Spot) (r0 : Bool) (h : grade_shifted_V s0 r0) : Ret Tryd.prog XS 26 [.agg [int s0.x, int s0.y]] (boo r0) := by
  refine fn_rule Tryd.func26 (by kernel_rfl) (by kernel_rfl) (by kernel_rfl) (by kernel_rfl) ?_
  by_cases c1 : s0.x ≥ (-1000)
  · have h := h.1 c1
    have g_1 := (abt (dec_t c1))
    have e_2 := (ac g_1 (ac g_1 (ac g_1 g_1)))
    by_cases c2 : s0.x ≤ 1000
    · have h := h.1 c2
      have g_3 := (abt (dec_t c2))
      have e_4 := (ac g_3 (ac g_3 (ac g_3 g_3)))
      by_cases c3 : s0.y ≥ (-1000)
      · have h := h.1 c3
        have g_5 := (abt (dec_t c3))
        rw [h]
        exact sr (ids := []) (vs := [boo (decide (s0.y ≤ 1000))]) (mem := []) (ac e_2 (ac e_4 (ac g_5 (ac g_5 (ac g_5 g_5))))) (by kernel_rfl) (by kernel_rfl) (rts_sc rfl)
      · have h := h.2 c3
        have g_6 := (abf (dec_f c3))
        rw [h]
        exact sr (ids := []) (vs := [boo false]) (mem := []) (ac e_2 (ac e_4 (ac g_6 (ac g_6 (ac g_6 g_6))))) (by kernel_rfl) (by kernel_rfl) (rts_sc rfl)
    · have h := h.2 c2
      have g_7 := (abf (dec_f c2))
      rw [h]
      exact sr (ids := []) (vs := [boo false]) (mem := []) (ac e_2 (ac g_7 (ac g_7 (ac g_7 (ac g_7 (ac abff (ac abff (ac abff abff)))))))) (by kernel_rfl) (by kernel_rfl) (rts_sc rfl)
  · have h := h.2 c1
    have g_8 := (abf (dec_f c1))
    rw [h]
    exact sr (ids := []) (vs := [boo false]) (mem := []) (ac g_8 (ac g_8 (ac g_8 (ac g_8 (ac abff (ac abff (ac abff (ac abff (ac abff (ac abff (ac abff abff))))))))))) (by kernel_rfl) (by kernel_rfl) (rts_sc rfl)

-- (grade.times).move
abbrev grade_times_move_V (m : Int) (s1 : Spot) (r0 : Spot) : Prop := (InR (m * s1.x)) ∧ (InR (m * s1.y)) ∧ r0 = (⟨(m * s1.x), (m * s1.y)⟩ : Spot)
theorem grade_times_move_W (m : Int) (s1 : Spot) (r0 : Spot) (h : grade_times_move_V m s1 r0) : Ret Tryd.prog XS 27 [int m, .agg [int s1.x, int s1.y]] (.agg [int r0.x, int r0.y]) := by
  refine fn_rule Tryd.func27 (by kernel_rfl) (by kernel_rfl) (by kernel_rfl) (by kernel_rfl) ?_
  obtain ⟨c1, c2, h⟩ := h
  rw [h]
  exact sr (ids := []) (vs := [.agg [int (m * s1.x), int (m * s1.y)]]) (mem := []) (ac (omul Tryd.prog 3 (wi64 c1)) (omul Tryd.prog 3 (wi64 c2))) (by kernel_rfl) (by kernel_rfl) (rts_agg (rcs_sc (rcs_sc (rcs_nil rfl))))

end Go.Ab
end
