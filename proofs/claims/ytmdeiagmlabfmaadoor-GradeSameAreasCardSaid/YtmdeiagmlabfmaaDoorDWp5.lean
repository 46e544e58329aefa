/- A part of the proof. Conditions: those of each theorem. -/
import Derived.Test.YtmdeiagmlabfmaaDoorDTy
import Derived.Test.YtmdeiagmlabfmaaDoorDX
set_option linter.unusedVariables false
set_option linter.unusedSimpArgs false
set_option linter.unusedSectionVars false

section
namespace Go.Ab
open Go.Proofs
set_option maxRecDepth 100000
set_option linter.unusedVariables false
attribute [local irreducible] todoQ
-- garmentref21.SameEdges
-- outline.Turned
def outline_Turned_S0 (l : List Edge) (t1 : Turn) (out5 : List Edge) (v13 : Int) : AS := ⟨[(3, .ptr 0 0 0), (5, .own 1 0 out5.length), (11, .sl 2 (l.map cEdge)), (12, int ((l.length : Nat) : Int)), (13, int v13)], [(1, .row 2 (out5.map cEdge)), (0, .box [boo t1.flip, int t1.quarter])], 2⟩
abbrev outline_Turned_V (l : List Edge) (t1 : Turn) (r0 : List Edge) (I0 : (List Edge) → Int → Prop) (M0 : (List Edge) → Int → Nat) : Prop := (0 ≤ ((l.length : Nat) : Int)) ∧ (((l.length : Nat) : Int) * 40 ≤ 140737488355328) ∧ (((l.length : Nat) : Int) ≤ 9223372036854775807) ∧ I0 ([] : List Edge) 0
abbrev outline_Turned_V0 (l : List Edge) (t1 : Turn) (r0 : List Edge) (I0 : (List Edge) → Int → Prop) (M0 : (List Edge) → Int → Nat) (out5 : List Edge) (v13 : Int) : Prop := ((v13 < ((l.length : Nat) : Int) → (Idx v13 l.length) ∧ (∃ (poly1 : List Spot), Ret Tryd.prog XS 31 [.agg [boo t1.flip, int t1.quarter], .sl 2 (((ai l v13).line).map cSpot)] (.fr 2 (poly1.map cSpot)) ∧ (Cap 40 (out5 ++ ([(⟨(ai l v13).name, poly1⟩ : Edge)] : List Edge)).length) ∧ (InR (v13 + 1)) ∧ I0 (out5 ++ ([(⟨(ai l v13).name, poly1⟩ : Edge)] : List Edge)) (v13 + 1) ∧ M0 (out5 ++ ([(⟨(ai l v13).name, poly1⟩ : Edge)] : List Edge)) (v13 + 1) < M0 out5 v13)) ∧ (¬ (v13 < ((l.length : Nat) : Int)) → ((t1.flip = true → ((((out5.length : Nat) : Int) > 1 → ((0 : Int) ≤ 1 ∧ (1 : Int) < ((out5.length : Nat) : Int)) ∧ (MutOk ((1 : Int).toNat) ((((out5.length : Nat) : Int) - 1).toNat) out5.length) ∧ r0 = (turnd out5 ((1 : Int).toNat) ((((out5.length : Nat) : Int) - 1).toNat))) ∧ (¬ (((out5.length : Nat) : Int) > 1) → r0 = out5))) ∧ (t1.flip = false → r0 = out5))))
theorem outline_Turned_W0 (l : List Edge) (t1 : Turn) (r0 : List Edge) (I0 : (List Edge) → Int → Prop) (M0 : (List Edge) → Int → Nat) (h0 : ∀ (out5 : List Edge) (v13 : Int), I0 out5 v13 → outline_Turned_V0 l t1 r0 I0 M0 out5 v13) : ∀ (x : (List Edge) × Int), I0 x.1 x.2 → loopQ Tryd.prog XS Tryd.f14 0 (.fr 2 (r0.map cEdge)) [] (outline_Turned_S0 l t1 x.1 x.2) := by
  intro x0 hx0
  refine loop_rule (fun (x : (List Edge) × Int) => I0 x.1 x.2) (fun (x : (List Edge) × Int) => M0 x.1 x.2) (fun (x : (List Edge) × Int) => outline_Turned_S0 l t1 x.1 x.2) x0 hx0 ?_
  rintro ⟨out5, v13⟩ hx
  have h := h0 out5 v13 hx
  clear hx hx0 x0
  by_cases c1 : v13 < ((l.length : Nat) : Int)
  · have h := h.1 c1
    obtain ⟨c2, poly1, c3, c4, c5, h⟩ := h
    exact sb (ts := [3, 5, 11, 12, 13]) (ids := [5, 0]) (d := 0) (s0 := ⟨[(3, .ptr 0 0 0), (5, .own 5 0 ((out5 ++ ([(⟨(ai l v13).name, poly1⟩ : Edge)] : List Edge)).length)), (11, .sl 2 (l.map cEdge)), (12, int ((l.length : Nat) : Int)), (13, int (v13 + 1))], [(5, .row 2 ((out5 ++ ([(⟨(ai l v13).name, poly1⟩ : Edge)] : List Edge)).map cEdge)), (0, .box [boo t1.flip, int t1.quarter])], 6⟩) (ac (abt (dec_t c1)) (ac (oidx cEdge c2) (ac (ocs c3) (ac (ofz cSpot poly1 (n := (poly1.map cSpot).length) (List.length_map ..)) (ac (oappo cEdge (n := out5.length) (m := ([(⟨(ai l v13).name, poly1⟩ : Edge)] : List Edge).length) rfl rfl c4) (oadd Tryd.prog 3 (wi64 c5))))))) (by kernel_rfl) (by kernel_rfl) rfl ((out5 ++ ([(⟨(ai l v13).name, poly1⟩ : Edge)] : List Edge)), (v13 + 1)) h.1 h.2 (Weak.anew [(1, some 5), (0, some 0)] (by rfl) (wt_cons rfl (wk_ptr rfl) (wt_cons rfl (wk_own rfl rfl) (wt_cons rfl wk_sl (wt_cons rfl wk_sc (wt_cons rfl wk_sc wt_nil))))) (wm_row rfl rfl (wm_box rfl rfl (wl_cons wk_sc (wl_cons wk_sc wl_nil)) wm_nil)))
  · have h := h.2 c1
    have e_1 := (abf (dec_f c1))
    rcases Bool.eq_false_or_eq_true t1.flip with c2 | c2
    · have h := h.1 c2
      have e_2 := (ac (abt c2) (ac (abt c2) (ac (oleno Tryd.prog 22 1 0 out5.length out5.length rfl (by kernel_rfl)) (ac (abt c2) (abt c2)))))
      by_cases c3 : ((out5.length : Nat) : Int) > 1
      · have h := h.1 c3
        obtain ⟨c4, c5, h⟩ := h
        rw [h]
        exact sr (ids := [1]) (vs := [.own 1 0 out5.length]) (mem := [(1, .row 2 ((turnd out5 ((1 : Int).toNat) ((((out5.length : Nat) : Int) - 1).toNat)).map cEdge))]) (ac e_1 (ac e_2 (ac (abt (dec_t c3)) (ac (At.mk (allc (ob_osl rfl c4) alln) : At [.val (.own 1 ((1 : Int).toNat) ((((out5.length : Nat) : Int) - 1).toNat))] [(0 : Int) ≤ 1 ∧ 1 ≤ ((out5.length : Nat) : Int) ∧ ((out5.length : Nat) : Int) ≤ ((out5.length : Nat) : Int) ∧ 0 < (out5.map cEdge).length ∧ ((1 : Int) = 0 ∨ 1 < ((out5.length : Nat) : Int)) ∧ 0 + (1 : Int).toNat = (1 : Int).toNat ∧ (((out5.length : Nat) : Int) - 1).toNat = (((out5.length : Nat) : Int) - 1).toNat]) (At.mk (allc (ob_mut c5 xs_rev32) alln) : At [.mut ((turnd out5 ((1 : Int).toNat) ((((out5.length : Nat) : Int) - 1).toNat)).map cEdge)] [∃ ys, ((1 : Int).toNat) + ((((out5.length : Nat) : Int) - 1).toNat) ≤ (out5.map cEdge).length ∧ (0 < ((((out5.length : Nat) : Int) - 1).toNat) ∧ ((((out5.length : Nat) : Int) - 1).toNat) ≤ 9223372036854775807) ∧ Ret Tryd.prog XS 32 [.fr 2 (((out5.map cEdge).drop ((1 : Int).toNat)).take ((((out5.length : Nat) : Int) - 1).toNat))] (.fr 2 ys) ∧ (out5.map cEdge).take ((1 : Int).toNat) ++ ys ++ (out5.map cEdge).drop (((1 : Int).toNat) + ((((out5.length : Nat) : Int) - 1).toNat)) = ((turnd out5 ((1 : Int).toNat) ((((out5.length : Nat) : Int) - 1).toNat)).map cEdge)]))))) (by kernel_rfl) (by kernel_rfl) (rts_own (by simp) rfl rfl rfl)
      · have h := h.2 c3
        rw [h]
        exact sr (ids := [1]) (vs := [.own 1 0 out5.length]) (mem := [(1, .row 2 (out5.map cEdge))]) (ac e_1 (ac e_2 (abf (dec_f c3)))) (by kernel_rfl) (by kernel_rfl) (rts_own rfl rfl rfl rfl)
    · have h := h.2 c2
      rw [h]
      exact sr (ids := [1]) (vs := [.own 1 0 out5.length]) (mem := [(1, .row 2 (out5.map cEdge))]) (ac e_1 (ac (abf c2) (ac (abf c2) (ac (abf c2) (ac (abf c2) abff))))) (by kernel_rfl) (by kernel_rfl) (rts_own rfl rfl rfl rfl)
theorem outline_Turned_W (l : List Edge) (t1 : Turn) (r0 : List Edge) (I0 : (List Edge) → Int → Prop) (M0 : (List Edge) → Int → Nat) (h : outline_Turned_V l t1 r0 I0 M0) (h0 : ∀ (out5 : List Edge) (v13 : Int), I0 out5 v13 → outline_Turned_V0 l t1 r0 I0 M0 out5 v13) : Ret Tryd.prog XS 14 [.sl 2 (l.map cEdge), .agg [boo t1.flip, int t1.quarter]] (.fr 2 (r0.map cEdge)) := by
  refine fn_rule Tryd.func14 (by kernel_rfl) (by kernel_rfl) (by kernel_rfl) (by kernel_rfl) ?_
  obtain ⟨c1, c2, c3, h⟩ := h
  have g_3 := (olen cEdge Tryd.prog 22 2 l (by kernel_rfl))
  exact sl (ts := [3, 5, 11, 12, 13]) (ids := [1, 0]) (d := 0) (s0 := ⟨[(3, .ptr 0 0 0), (5, .own 1 0 (([] : List Edge).length)), (11, .sl 2 (l.map cEdge)), (12, int ((l.length : Nat) : Int)), (13, int 0)], [(1, .row 2 (([] : List Edge).map cEdge)), (0, .box [boo t1.flip, int t1.quarter])], 2⟩) (ac g_3 (ac (At.mk (allc (ob_make0 c1 c2 c3) alln) : At [.rows ([] : List Edge).length (([] : List Edge).map cEdge)] [(0 : Int) ≤ ((l.length : Nat) : Int) ∧ (0 : Int) ≤ 0 ∧ ((l.length : Nat) : Int) * 40 ≤ (lim : Int) ∧ ((l.length : Nat) : Int) ≤ 9223372036854775807 ∧ (0 : Int).toNat = ([] : List Edge).length ∧ List.replicate ([] : List Edge).length [str ByteArray.empty, .nil] = (([] : List Edge).map cEdge)]) g_3)) (by kernel_rfl) (by kernel_rfl) (Weak.anew [(1, some 1), (0, some 0)] (by rfl) (wt_cons rfl (wk_ptr rfl) (wt_cons rfl (wk_own rfl rfl) (wt_cons rfl wk_sl (wt_cons rfl wk_sc (wt_cons rfl wk_sc wt_nil))))) (wm_row rfl rfl (wm_box rfl rfl (wl_cons wk_sc (wl_cons wk_sc wl_nil)) wm_nil))) (outline_Turned_W0 l t1 r0 I0 M0 h0 (([] : List Edge), 0) h)

-- grade.Areas
def grade_Areas_S0 (p : Piece) (multiples : List Int) (out6 : List Int) (v15 : Int) : AS := ⟨[(2, .ptr 0 0 0), (6, .own 1 0 out6.length), (13, .sl 1 (multiples.map cI)), (14, int ((multiples.length : Nat) : Int)), (15, int v15)], [(1, .row 1 (out6.map cI)), (0, .box [str p.name, .sl 2 (p.edges.map cEdge), int p.grain, .sl 2 (p.notches.map cNotch), .sl 2 (p.corners.map cSpot), .sl 1 (p.widths.map cI), boo p.match_])], 2⟩
abbrev grade_Areas_V (p : Piece) (multiples : List Int) (r0 : List Int) (r1 : Int) (I0 : (List Int) → Int → Prop) (M0 : (List Int) → Int → Nat) : Prop := I0 ([] : List Int) 0
abbrev grade_Areas_V0 (p : Piece) (multiples : List Int) (r0 : List Int) (r1 : Int) (I0 : (List Int) → Int → Prop) (M0 : (List Int) → Int → Nat) (out6 : List Int) (v15 : Int) : Prop := ((v15 < ((multiples.length : Nat) : Int) → (Idx v15 multiples.length) ∧ (∃ (graded1a : List Edge) (graded1b : Int), Ret Tryd.prog XS 11 [.agg [str p.name, .sl 2 (p.edges.map cEdge), int p.grain, .sl 2 (p.notches.map cNotch), .sl 2 (p.corners.map cSpot), .sl 1 (p.widths.map cI), boo p.match_], int (ai multiples v15)] (.tup [.fr 2 (graded1a.map cEdge), int graded1b]) ∧ ((graded1b = 0 → (∃ (polygon2a : List Spot) (polygon2b : Int), Ret Tryd.prog XS 33 [.sl 2 (graded1a.map cEdge)] (.tup [.fr 2 (polygon2a.map cSpot), int polygon2b]) ∧ ((polygon2b = 0 → (∃ (area23 : Int), Ret Tryd.prog XS 34 [.sl 2 (polygon2a.map cSpot)] (int area23) ∧ (InR (-area23)) ∧ (Cap 8 (out6 ++ ([(max area23 (-area23))] : List Int)).length) ∧ (InR (v15 + 1)) ∧ I0 (out6 ++ ([(max area23 (-area23))] : List Int)) (v15 + 1) ∧ M0 (out6 ++ ([(max area23 (-area23))] : List Int)) (v15 + 1) < M0 out6 v15)) ∧ (¬ (polygon2b = 0) → r0 = ([] : List Int) ∧ r1 = polygon2b)))) ∧ (¬ (graded1b = 0) → r0 = ([] : List Int) ∧ r1 = graded1b)))) ∧ (¬ (v15 < ((multiples.length : Nat) : Int)) → r0 = out6 ∧ r1 = 0))
theorem grade_Areas_W0 (p : Piece) (multiples : List Int) (r0 : List Int) (r1 : Int) (I0 : (List Int) → Int → Prop) (M0 : (List Int) → Int → Nat) (h0 : ∀ (out6 : List Int) (v15 : Int), I0 out6 v15 → grade_Areas_V0 p multiples r0 r1 I0 M0 out6 v15) : ∀ (x : (List Int) × Int), I0 x.1 x.2 → loopQ Tryd.prog XS Tryd.f15 0 (.tup [.fr 1 (r0.map cI), int r1]) [] (grade_Areas_S0 p multiples x.1 x.2) := by
  intro x0 hx0
  refine loop_rule (fun (x : (List Int) × Int) => I0 x.1 x.2) (fun (x : (List Int) × Int) => M0 x.1 x.2) (fun (x : (List Int) × Int) => grade_Areas_S0 p multiples x.1 x.2) x0 hx0 ?_
  rintro ⟨out6, v15⟩ hx
  have h := h0 out6 v15 hx
  clear hx hx0 x0
  by_cases c1 : v15 < ((multiples.length : Nat) : Int)
  · have h := h.1 c1
    obtain ⟨c2, graded1a, graded1b, c3, h⟩ := h
    have e_1 := (ac (abt (dec_t c1)) (ac (oidx cI c2) (ocs c3)))
    by_cases c4 : graded1b = 0
    · have h := h.1 c4
      obtain ⟨polygon2a, polygon2b, c5, h⟩ := h
      have e_2 := (ac (abf (bne_f c4)) (ocl [2] [(2, .row 2 (graded1a.map cEdge))] [.own 2 0 ((graded1a.map cEdge).length)] (as_cons (at_row (List.length_map ..) rfl) as_nil) c5))
      by_cases c6 : polygon2b = 0
      · have h := h.1 c6
        obtain ⟨area23, c7, c8, c9, c10, h⟩ := h
        exact sb (ts := [2, 6, 13, 14, 15]) (ids := [5, 0]) (d := 0) (s0 := ⟨[(2, .ptr 0 0 0), (6, .own 5 0 ((out6 ++ ([(max area23 (-area23))] : List Int)).length)), (13, .sl 1 (multiples.map cI)), (14, int ((multiples.length : Nat) : Int)), (15, int (v15 + 1))], [(5, .row 1 ((out6 ++ ([(max area23 (-area23))] : List Int)).map cI)), (0, .box [str p.name, .sl 2 (p.edges.map cEdge), int p.grain, .sl 2 (p.notches.map cNotch), .sl 2 (p.corners.map cSpot), .sl 1 (p.widths.map cI), boo p.match_])], 6⟩) (ac e_1 (ac e_2 (ac (abf (bne_f c6)) (ac (ocl [3] [(3, .row 2 (polygon2a.map cSpot))] [.own 3 0 ((polygon2a.map cSpot).length)] (as_cons (at_row (List.length_map ..) rfl) as_nil) c7) (ac (oneg (wi64 c8)) (ac (omax .i64 area23 (-area23)) (ac (oappo cI (n := out6.length) (m := ([(max area23 (-area23))] : List Int).length) rfl rfl c9) (oadd Tryd.prog 3 (wi64 c10))))))))) (by kernel_rfl) (by kernel_rfl) rfl ((out6 ++ ([(max area23 (-area23))] : List Int)), (v15 + 1)) h.1 h.2 (Weak.anew [(1, some 5), (0, some 0)] (by rfl) (wt_cons rfl (wk_ptr rfl) (wt_cons rfl (wk_own rfl rfl) (wt_cons rfl wk_sl (wt_cons rfl wk_sc (wt_cons rfl wk_sc wt_nil))))) (wm_row rfl rfl (wm_box rfl rfl (wl_cons wk_sc (wl_cons wk_sl (wl_cons wk_sc (wl_cons wk_sl (wl_cons wk_sl (wl_cons wk_sl (wl_cons wk_sc wl_nil))))))) wm_nil)))
      · have h := h.2 c6
        rw [h.1, h.2]
        exact sr (ids := []) (vs := [.nil, int polygon2b]) (mem := []) (ac e_1 (ac e_2 (abt (bne_t c6)))) (by kernel_rfl) (by kernel_rfl) (rts_nilfr (rts_sc rfl))
    · have h := h.2 c4
      rw [h.1, h.2]
      exact sr (ids := []) (vs := [.nil, int graded1b]) (mem := []) (ac e_1 (abt (bne_t c4))) (by kernel_rfl) (by kernel_rfl) (rts_nilfr (rts_sc rfl))
  · have h := h.2 c1
    rw [h.1, h.2]
    exact sr (ids := [1]) (vs := [.own 1 0 out6.length, int 0]) (mem := [(1, .row 1 (out6.map cI))]) (abf (dec_f c1)) (by kernel_rfl) (by kernel_rfl) (rts_own rfl rfl rfl (rts_sc rfl))
theorem grade_Areas_W (p : Piece) (multiples : List Int) (r0 : List Int) (r1 : Int) (I0 : (List Int) → Int → Prop) (M0 : (List Int) → Int → Nat) (h : grade_Areas_V p multiples r0 r1 I0 M0) (h0 : ∀ (out6 : List Int) (v15 : Int), I0 out6 v15 → grade_Areas_V0 p multiples r0 r1 I0 M0 out6 v15) : Ret Tryd.prog XS 15 [.agg [str p.name, .sl 2 (p.edges.map cEdge), int p.grain, .sl 2 (p.notches.map cNotch), .sl 2 (p.corners.map cSpot), .sl 1 (p.widths.map cI), boo p.match_], .sl 1 (multiples.map cI)] (.tup [.fr 1 (r0.map cI), int r1]) := by
  refine fn_rule Tryd.func15 (by kernel_rfl) (by kernel_rfl) (by kernel_rfl) (by kernel_rfl) ?_
  exact sl (ts := [2, 6, 13, 14, 15]) (ids := [0]) (d := 0) (s0 := ⟨[(2, .ptr 0 0 0), (6, .nil), (13, .sl 1 (multiples.map cI)), (14, int ((multiples.length : Nat) : Int)), (15, int 0)], [(0, .box [str p.name, .sl 2 (p.edges.map cEdge), int p.grain, .sl 2 (p.notches.map cNotch), .sl 2 (p.corners.map cSpot), .sl 1 (p.widths.map cI), boo p.match_])], 1⟩) (olen cI Tryd.prog 25 1 multiples (by kernel_rfl)) (by kernel_rfl) (by kernel_rfl) (Weak.anew [(1, none), (0, some 0)] (by rfl) (wt_cons rfl (wk_ptr rfl) (wt_cons rfl (wk_nilown rfl) (wt_cons rfl wk_sl (wt_cons rfl wk_sc (wt_cons rfl wk_sc wt_nil))))) (wm_none rfl (wm_box rfl rfl (wl_cons wk_sc (wl_cons wk_sl (wl_cons wk_sc (wl_cons wk_sl (wl_cons wk_sl (wl_cons wk_sl (wl_cons wk_sc wl_nil))))))) wm_nil))) (grade_Areas_W0 p multiples r0 r1 I0 M0 h0 (([] : List Int), 0) h)

-- garmentref21.SameInts
def garmentref21_SameInts_S0 (a : List Int) (b : List Int) (i5 : Int) : AS := ⟨[(0, .sl 1 (a.map cI)), (1, .sl 1 (b.map cI)), (5, int i5)], [], 0⟩
abbrev garmentref21_SameInts_V (a : List Int) (b : List Int) (r0 : Bool) (I0 : Int → Prop) (M0 : Int → Nat) : Prop := ((((a.length : Nat) : Int) = ((b.length : Nat) : Int) → I0 0) ∧ (¬ (((a.length : Nat) : Int) = ((b.length : Nat) : Int)) → r0 = false))
abbrev garmentref21_SameInts_V0 (a : List Int) (b : List Int) (r0 : Bool) (I0 : Int → Prop) (M0 : Int → Nat) (i5 : Int) : Prop := ((i5 < ((a.length : Nat) : Int) → (Idx i5 a.length) ∧ (Idx i5 b.length) ∧ (((ai a i5) = (ai b i5) → (InR (i5 + 1)) ∧ I0 (i5 + 1) ∧ M0 (i5 + 1) < M0 i5) ∧ (¬ ((ai a i5) = (ai b i5)) → r0 = false))) ∧ (¬ (i5 < ((a.length : Nat) : Int)) → r0 = true))
theorem garmentref21_SameInts_W0 (a : List Int) (b : List Int) (r0 : Bool) (I0 : Int → Prop) (M0 : Int → Nat) (h0 : ∀ (i5 : Int), I0 i5 → garmentref21_SameInts_V0 a b r0 I0 M0 i5) : ∀ (x : Int), I0 x → loopQ Tryd.prog XS Tryd.f16 0 (boo r0) [] (garmentref21_SameInts_S0 a b x) := by
  intro x0 hx0
  refine loop_rule (fun (x : Int) => I0 x) (fun (x : Int) => M0 x) (fun (x : Int) => garmentref21_SameInts_S0 a b x) x0 hx0 ?_
  intro i5 hx
  have h := h0 i5 hx
  clear hx hx0 x0
  have g_1 := (olen cI Tryd.prog 25 1 a (by kernel_rfl))
  by_cases c1 : i5 < ((a.length : Nat) : Int)
  · have h := h.1 c1
    obtain ⟨c2, c3, h⟩ := h
    have e_2 := (ac (abt (dec_t c1)) (ac (oidx cI c2) (oidx cI c3)))
    by_cases c4 : (ai a i5) = (ai b i5)
    · have h := h.1 c4
      obtain ⟨c5, h⟩ := h
      exact sb (ts := [0, 1, 5]) (ids := []) (d := 0) (s0 := ⟨[(0, .sl 1 (a.map cI)), (1, .sl 1 (b.map cI)), (5, int (i5 + 1))], [], 0⟩) (ac g_1 (ac e_2 (ac (abf (bne_f c4)) (oadd Tryd.prog 3 (wi64 c5))))) (by kernel_rfl) (by kernel_rfl) rfl (i5 + 1) h.1 h.2 (Weak.anew [] (by rfl) (wt_cons rfl wk_sl (wt_cons rfl wk_sl (wt_cons rfl wk_sc wt_nil))) wm_nil)
    · have h := h.2 c4
      rw [h]
      exact sr (ids := []) (vs := [boo false]) (mem := []) (ac g_1 (ac e_2 (abt (bne_t c4)))) (by kernel_rfl) (by kernel_rfl) (rts_sc rfl)
  · have h := h.2 c1
    rw [h]
    exact sr (ids := []) (vs := [boo true]) (mem := []) (ac g_1 (abf (dec_f c1))) (by kernel_rfl) (by kernel_rfl) (rts_sc rfl)
theorem garmentref21_SameInts_W (a : List Int) (b : List Int) (r0 : Bool) (I0 : Int → Prop) (M0 : Int → Nat) (h : garmentref21_SameInts_V a b r0 I0 M0) (h0 : ∀ (i5 : Int), I0 i5 → garmentref21_SameInts_V0 a b r0 I0 M0 i5) : Ret Tryd.prog XS 16 [.sl 1 (a.map cI), .sl 1 (b.map cI)] (boo r0) := by
  refine fn_rule Tryd.func16 (by kernel_rfl) (by kernel_rfl) (by kernel_rfl) (by kernel_rfl) ?_
  have g_3 := (olen cI Tryd.prog 25 1 a (by kernel_rfl))
  have e_4 := (ac g_3 (olen cI Tryd.prog 25 1 b (by kernel_rfl)))
  by_cases c1 : ((a.length : Nat) : Int) = ((b.length : Nat) : Int)
  · have h := h.1 c1
    exact sl (ts := [0, 1, 5]) (ids := []) (d := 0) (s0 := ⟨[(0, .sl 1 (a.map cI)), (1, .sl 1 (b.map cI)), (5, int 0)], [], 0⟩) (ac e_4 (abf (bne_f c1))) (by kernel_rfl) (by kernel_rfl) (Weak.anew [] (by rfl) (wt_cons rfl wk_sl (wt_cons rfl wk_sl (wt_cons rfl wk_sc wt_nil))) wm_nil) (garmentref21_SameInts_W0 a b r0 I0 M0 h0 0 h)
  · have h := h.2 c1
    rw [h]
    exact sr (ids := []) (vs := [boo false]) (mem := []) (ac e_4 (abt (bne_t c1))) (by kernel_rfl) (by kernel_rfl) (rts_sc rfl)

-- garmentref11.Same
-- polyline.Move
end Go.Ab
end

section
namespace Go.Ab
open Go.Proofs
set_option maxRecDepth 100000
set_option linter.unusedVariables false
attribute [local irreducible] todoQ
-- outline.Check
def outline_Check_S0 (l : List Edge) (end4 : List Spot) (v27 : Int) : AS := ⟨[(0, .sl 2 (l.map cEdge)), (4, .sl 2 (end4.map cSpot)), (25, .sl 2 (l.map cEdge)), (26, int ((l.length : Nat) : Int)), (27, int v27)], [], 0⟩
abbrev outline_Check_V (l : List Edge) (r0 : Int) (I0 : (List Spot) → Int → Prop) (M0 : (List Spot) → Int → Nat) : Prop := ((((l.length : Nat) : Int) > 16 → r0 = 5) ∧ (¬ (((l.length : Nat) : Int) > 16) → ((((l.length : Nat) : Int) < 2 → r0 = 11) ∧ (¬ (((l.length : Nat) : Int) < 2) → (∃ (edges1 : Int), Ret Tryd.prog XS 35 [.sl 2 (l.map cEdge)] (int edges1) ∧ ((edges1 = 0 → (InR (((l.length : Nat) : Int) - 1)) ∧ (Idx (((l.length : Nat) : Int) - 1) l.length) ∧ I0 ((ai l (((l.length : Nat) : Int) - 1)).line) 0) ∧ (¬ (edges1 = 0) → r0 = edges1)))))))
abbrev outline_Check_V0 (l : List Edge) (r0 : Int) (I0 : (List Spot) → Int → Prop) (M0 : (List Spot) → Int → Nat) (end4 : List Spot) (v27 : Int) : Prop := ((v27 < ((l.length : Nat) : Int) → (Idx v27 l.length) ∧ (InR (((end4.length : Nat) : Int) - 1)) ∧ (Idx (((end4.length : Nat) : Int) - 1) end4.length) ∧ (Idx 0 ((ai l v27).line).length) ∧ (((ai end4 (((end4.length : Nat) : Int) - 1)) = (ai ((ai l v27).line) 0) → (InR (v27 + 1)) ∧ I0 ((ai l v27).line) (v27 + 1) ∧ M0 ((ai l v27).line) (v27 + 1) < M0 end4 v27) ∧ (¬ ((ai end4 (((end4.length : Nat) : Int) - 1)) = (ai ((ai l v27).line) 0)) → r0 = 11))) ∧ (¬ (v27 < ((l.length : Nat) : Int)) → (∃ (vertices1 : List Spot), Ret Tryd.prog XS 37 [.sl 2 (l.map cEdge)] (.fr 2 (vertices1.map cSpot)) ∧ (∃ (check2 : Int), Ret Tryd.prog XS 36 [.sl 2 (vertices1.map cSpot)] (int check2) ∧ r0 = check2))))
theorem outline_Check_W0 (l : List Edge) (r0 : Int) (I0 : (List Spot) → Int → Prop) (M0 : (List Spot) → Int → Nat) (h0 : ∀ (end4 : List Spot) (v27 : Int), I0 end4 v27 → outline_Check_V0 l r0 I0 M0 end4 v27) : ∀ (x : (List Spot) × Int), I0 x.1 x.2 → loopQ Tryd.prog XS Tryd.f19 0 (int r0) [] (outline_Check_S0 l x.1 x.2) := by
  intro x0 hx0
  refine loop_rule (fun (x : (List Spot) × Int) => I0 x.1 x.2) (fun (x : (List Spot) × Int) => M0 x.1 x.2) (fun (x : (List Spot) × Int) => outline_Check_S0 l x.1 x.2) x0 hx0 ?_
  rintro ⟨end4, v27⟩ hx
  have h := h0 end4 v27 hx
  clear hx hx0 x0
  by_cases c1 : v27 < ((l.length : Nat) : Int)
  · have h := h.1 c1
    obtain ⟨c2, c3, c4, c5, h⟩ := h
    have g_1 := (abt (dec_t c1))
    have e_2 := (ac g_1 (ac (oidx cEdge c2) (ac (olen cSpot Tryd.prog 24 2 end4 (by kernel_rfl)) (ac (osub Tryd.prog 3 (wi64 c3)) (ac (oidx cSpot c4) (oidx cSpot c5))))))
    by_cases c6 : (ai end4 (((end4.length : Nat) : Int) - 1)) = (ai ((ai l v27).line) 0)
    · have h := h.1 c6
      obtain ⟨c7, h⟩ := h
      exact sb (ts := [0, 4, 25, 26, 27]) (ids := []) (d := 0) (s0 := ⟨[(0, .sl 2 (l.map cEdge)), (4, .sl 2 (((ai l v27).line).map cSpot)), (25, .sl 2 (l.map cEdge)), (26, int ((l.length : Nat) : Int)), (27, int (v27 + 1))], [], 1⟩) (ac e_2 (ac (abf (not_f (sSpot_t c6))) (oadd Tryd.prog 3 (wi64 c7)))) (by kernel_rfl) (by kernel_rfl) rfl ((ai l v27).line, (v27 + 1)) h.1 h.2 (Weak.anew [] (by rfl) (wt_cons rfl wk_sl (wt_cons rfl wk_sl (wt_cons rfl wk_sl (wt_cons rfl wk_sc (wt_cons rfl wk_sc wt_nil))))) wm_nil)
    · have h := h.2 c6
      rw [h]
      exact sr (ids := []) (vs := [int 11]) (mem := []) (ac e_2 (abt (not_t (sSpot_f c6)))) (by kernel_rfl) (by kernel_rfl) (rts_sc rfl)
  · have h := h.2 c1
    obtain ⟨vertices1, c2, check2, c3, h⟩ := h
    have g_3 := (abf (dec_f c1))
    rw [h]
    exact sr (ids := []) (vs := [int check2]) (mem := []) (ac g_3 (ac (ocs c2) (ocl [0] [(0, .row 2 (vertices1.map cSpot))] [.own 0 0 ((vertices1.map cSpot).length)] (as_cons (at_row (List.length_map ..) rfl) as_nil) c3))) (by kernel_rfl) (by kernel_rfl) (rts_sc rfl)
theorem outline_Check_W (l : List Edge) (r0 : Int) (I0 : (List Spot) → Int → Prop) (M0 : (List Spot) → Int → Nat) (h : outline_Check_V l r0 I0 M0) (h0 : ∀ (end4 : List Spot) (v27 : Int), I0 end4 v27 → outline_Check_V0 l r0 I0 M0 end4 v27) : Ret Tryd.prog XS 19 [.sl 2 (l.map cEdge)] (int r0) := by
  refine fn_rule Tryd.func19 (by kernel_rfl) (by kernel_rfl) (by kernel_rfl) (by kernel_rfl) ?_
  have g_4 := (olen cEdge Tryd.prog 22 2 l (by kernel_rfl))
  by_cases c1 : ((l.length : Nat) : Int) > 16
  · have h := h.1 c1
    have g_5 := (abt (dec_t c1))
    rw [h]
    exact sr (ids := []) (vs := [int 5]) (mem := []) (ac g_4 g_5) (by kernel_rfl) (by kernel_rfl) (rts_sc rfl)
  · have h := h.2 c1
    have g_6 := (abf (dec_f c1))
    have e_7 := (ac g_6 g_4)
    by_cases c2 : ((l.length : Nat) : Int) < 2
    · have h := h.1 c2
      rw [h]
      exact sr (ids := []) (vs := [int 11]) (mem := []) (ac g_4 (ac e_7 (abt (dec_t c2)))) (by kernel_rfl) (by kernel_rfl) (rts_sc rfl)
    · have h := h.2 c2
      obtain ⟨edges1, c3, h⟩ := h
      have e_8 := (ac (abf (dec_f c2)) (ocs c3))
      by_cases c4 : edges1 = 0
      · have h := h.1 c4
        obtain ⟨c5, c6, h⟩ := h
        exact sl (ts := [0, 4, 25, 26, 27]) (ids := []) (d := 0) (s0 := ⟨[(0, .sl 2 (l.map cEdge)), (4, .sl 2 (((ai l (((l.length : Nat) : Int) - 1)).line).map cSpot)), (25, .sl 2 (l.map cEdge)), (26, int ((l.length : Nat) : Int)), (27, int 0)], [], 0⟩) (ac g_4 (ac e_7 (ac e_8 (ac (abf (bne_f c4)) (ac g_4 (ac (osub Tryd.prog 3 (wi64 c5)) (ac (oidx cEdge c6) g_4))))))) (by kernel_rfl) (by kernel_rfl) (Weak.anew [] (by rfl) (wt_cons rfl wk_sl (wt_cons rfl wk_sl (wt_cons rfl wk_sl (wt_cons rfl wk_sc (wt_cons rfl wk_sc wt_nil))))) wm_nil) (outline_Check_W0 l r0 I0 M0 h0 ((ai l (((l.length : Nat) : Int) - 1)).line, 0) h)
      · have h := h.2 c4
        rw [h]
        exact sr (ids := []) (vs := [int edges1]) (mem := []) (ac g_4 (ac e_7 (ac e_8 (abt (bne_t c4))))) (by kernel_rfl) (by kernel_rfl) (rts_sc rfl)

-- polyline.Length
def polyline_Length_S0 (l : List Spot) (n5 : Int) (i6 : Int) : AS := ⟨[(0, .sl 2 (l.map cSpot)), (5, int n5), (6, int i6)], [], 0⟩
abbrev polyline_Length_V (l : List Spot) (r0 : Int) (r1 : Int) (I0 : Int → Int → Prop) (M0 : Int → Int → Nat) : Prop := (∃ (check1 : Int), Ret Tryd.prog XS 38 [.sl 2 (l.map cSpot)] (int check1) ∧ ((check1 = 0 → I0 0 1) ∧ (¬ (check1 = 0) → r0 = 0 ∧ r1 = check1)))
abbrev polyline_Length_V0 (l : List Spot) (r0 : Int) (r1 : Int) (I0 : Int → Int → Prop) (M0 : Int → Int → Nat) (n5 : Int) (i6 : Int) : Prop := ((i6 < ((l.length : Nat) : Int) → (InR (i6 - 1)) ∧ (Idx (i6 - 1) l.length) ∧ (Idx i6 l.length) ∧ (∃ (segment1 : Int), Ret Tryd.prog XS 39 [.agg [int ((ai l (i6 - 1)).x), int ((ai l (i6 - 1)).y)], .agg [int ((ai l i6).x), int ((ai l i6).y)]] (int segment1) ∧ (InR (n5 + segment1)) ∧ (InR (i6 + 1)) ∧ I0 (n5 + segment1) (i6 + 1) ∧ M0 (n5 + segment1) (i6 + 1) < M0 n5 i6)) ∧ (¬ (i6 < ((l.length : Nat) : Int)) → r0 = n5 ∧ r1 = 0))
theorem polyline_Length_W0 (l : List Spot) (r0 : Int) (r1 : Int) (I0 : Int → Int → Prop) (M0 : Int → Int → Nat) (h0 : ∀ (n5 : Int) (i6 : Int), I0 n5 i6 → polyline_Length_V0 l r0 r1 I0 M0 n5 i6) : ∀ (x : Int × Int), I0 x.1 x.2 → loopQ Tryd.prog XS Tryd.f20 0 (.tup [int r0, int r1]) [] (polyline_Length_S0 l x.1 x.2) := by
  intro x0 hx0
  refine loop_rule (fun (x : Int × Int) => I0 x.1 x.2) (fun (x : Int × Int) => M0 x.1 x.2) (fun (x : Int × Int) => polyline_Length_S0 l x.1 x.2) x0 hx0 ?_
  rintro ⟨n5, i6⟩ hx
  have h := h0 n5 i6 hx
  clear hx hx0 x0
  have e_1 := (olen cSpot Tryd.prog 24 2 l (by kernel_rfl))
  by_cases c1 : i6 < ((l.length : Nat) : Int)
  · have h := h.1 c1
    obtain ⟨c2, c3, c4, segment1, c5, c6, c7, h⟩ := h
    exact sb (ts := [0, 5, 6]) (ids := []) (d := 0) (s0 := ⟨[(0, .sl 2 (l.map cSpot)), (5, int (n5 + segment1)), (6, int (i6 + 1))], [], 0⟩) (ac e_1 (ac (abt (dec_t c1)) (ac (osub Tryd.prog 3 (wi64 c2)) (ac (oidx cSpot c3) (ac (oidx cSpot c4) (ac (ocs c5) (ac (oadd Tryd.prog 3 (wi64 c6)) (oadd Tryd.prog 3 (wi64 c7))))))))) (by kernel_rfl) (by kernel_rfl) rfl ((n5 + segment1), (i6 + 1)) h.1 h.2 (Weak.anew [] (by rfl) (wt_cons rfl wk_sl (wt_cons rfl wk_sc (wt_cons rfl wk_sc wt_nil))) wm_nil)
  · have h := h.2 c1
    rw [h.1, h.2]
    exact sr (ids := []) (vs := [int n5, int 0]) (mem := []) (ac e_1 (abf (dec_f c1))) (by kernel_rfl) (by kernel_rfl) (rts_sc (rts_sc rfl))
theorem polyline_Length_W (l : List Spot) (r0 : Int) (r1 : Int) (I0 : Int → Int → Prop) (M0 : Int → Int → Nat) (h : polyline_Length_V l r0 r1 I0 M0) (h0 : ∀ (n5 : Int) (i6 : Int), I0 n5 i6 → polyline_Length_V0 l r0 r1 I0 M0 n5 i6) : Ret Tryd.prog XS 20 [.sl 2 (l.map cSpot)] (.tup [int r0, int r1]) := by
  refine fn_rule Tryd.func20 (by kernel_rfl) (by kernel_rfl) (by kernel_rfl) (by kernel_rfl) ?_
  obtain ⟨check1, c1, h⟩ := h
  have e_2 := (ocs c1)
  by_cases c2 : check1 = 0
  · have h := h.1 c2
    exact sl (ts := [0, 5, 6]) (ids := []) (d := 0) (s0 := ⟨[(0, .sl 2 (l.map cSpot)), (5, int 0), (6, int 1)], [], 0⟩) (ac e_2 (abf (bne_f c2))) (by kernel_rfl) (by kernel_rfl) (Weak.anew [] (by rfl) (wt_cons rfl wk_sl (wt_cons rfl wk_sc (wt_cons rfl wk_sc wt_nil))) wm_nil) (polyline_Length_W0 l r0 r1 I0 M0 h0 (0, 1) h)
  · have h := h.2 c2
    rw [h.1, h.2]
    exact sr (ids := []) (vs := [int 0, int check1]) (mem := []) (ac e_2 (abt (bne_t c2))) (by kernel_rfl) (by kernel_rfl) (rts_sc (rts_sc rfl))

-- garmentref21.Same
-- turn.Compose
-- turn.Inverse
-- grade.shifted
abbrev grade_shifted_V (s0 : Spot) (r0 : Bool) : Prop := ((s0.x ≥ (-1000) → ((s0.x ≤ 1000 → ((s0.y ≥ (-1000) → r0 = (decide (s0.y ≤ 1000))) ∧ (¬ (s0.y ≥ (-1000)) → r0 = false))) ∧ (¬ (s0.x ≤ 1000) → r0 = false))) ∧ (¬ (s0.x ≥ (-1000)) → r0 = false))
theorem grade_shifted_W (s0 : Spot) (r0 : Bool) (h : grade_shifted_V s0 r0) : Ret Tryd.prog XS 26 [.agg [int s0.x, int s0.y]] (boo r0) := by
  refine fn_rule Tryd.func26 (by kernel_rfl) (by kernel_rfl) (by kernel_rfl) (by kernel_rfl) ?_
  by_cases c1 : s0.x ≥ (-1000)
  · have h := h.1 c1
    have g_1 := (abt (dec_t c1))
    have e_2 := (ac g_1 (ac g_1 (ac g_1 g_1)))
    by_cases c2 : s0.x ≤ 1000
    · have h := h.1 c2
      have g_3 := (abt (dec_t c2))
      have e_4 := (ac g_3 (ac g_3 (ac g_3 g_3)))
      by_cases c3 : s0.y ≥ (-1000)
      · have h := h.1 c3
        have g_5 := (abt (dec_t c3))
        rw [h]
        exact sr (ids := []) (vs := [boo (decide (s0.y ≤ 1000))]) (mem := []) (ac e_2 (ac e_4 (ac g_5 (ac g_5 (ac g_5 g_5))))) (by kernel_rfl) (by kernel_rfl) (rts_sc rfl)
      · have h := h.2 c3
        have g_6 := (abf (dec_f c3))
        rw [h]
        exact sr (ids := []) (vs := [boo false]) (mem := []) (ac e_2 (ac e_4 (ac g_6 (ac g_6 (ac g_6 g_6))))) (by kernel_rfl) (by kernel_rfl) (rts_sc rfl)
    · have h := h.2 c2
      have g_7 := (abf (dec_f c2))
      rw [h]
      exact sr (ids := []) (vs := [boo false]) (mem := []) (ac e_2 (ac g_7 (ac g_7 (ac g_7 (ac g_7 (ac abff (ac abff (ac abff abff)))))))) (by kernel_rfl) (by kernel_rfl) (rts_sc rfl)
  · have h := h.2 c1
    have g_8 := (abf (dec_f c1))
    rw [h]
    exact sr (ids := []) (vs := [boo false]) (mem := []) (ac g_8 (ac g_8 (ac g_8 (ac g_8 (ac abff (ac abff (ac abff (ac abff (ac abff (ac abff (ac abff abff))))))))))) (by kernel_rfl) (by kernel_rfl) (rts_sc rfl)

-- (grade.times).move
abbrev grade_times_move_V (m : Int) (s1 : Spot) (r0 : Spot) : Prop := (InR (m * s1.x)) ∧ (InR (m * s1.y)) ∧ r0 = (⟨(m * s1.x), (m * s1.y)⟩ : Spot)
theorem grade_times_move_W (m : Int) (s1 : Spot) (r0 : Spot) (h : grade_times_move_V m s1 r0) : Ret Tryd.prog XS 27 [int m, .agg [int s1.x, int s1.y]] (.agg [int r0.x, int r0.y]) := by
  refine fn_rule Tryd.func27 (by kernel_rfl) (by kernel_rfl) (by kernel_rfl) (by kernel_rfl) ?_
  obtain ⟨c1, c2, h⟩ := h
  rw [h]
  exact sr (ids := []) (vs := [.agg [int (m * s1.x), int (m * s1.y)]]) (mem := []) (ac (omul Tryd.prog 3 (wi64 c1)) (omul Tryd.prog 3 (wi64 c2))) (by kernel_rfl) (by kernel_rfl) (rts_agg (rcs_sc (rcs_sc (rcs_nil rfl))))

end Go.Ab
end

section
namespace Go.Ab
open Go.Proofs
set_option maxRecDepth 100000
set_option linter.unusedVariables false
attribute [local irreducible] todoQ
-- grade.along
def grade_along_S0 (l : List Spot) (a : Spot) (b : Spot) (v19 : Int) (w8 : List Spot) : AS := ⟨[(4, .ptr 0 0 0), (5, .ptr 1 0 0), (7, int (((l.length : Nat) : Int) - 1)), (8, .own 2 0 w8.length), (17, .sl 2 (l.map cSpot)), (18, int ((l.length : Nat) : Int)), (19, int v19)], [(0, .box [int a.x, int a.y]), (1, .box [int b.x, int b.y]), (2, .row 2 (w8.map cSpot))], 3⟩
abbrev grade_along_V (l : List Spot) (a : Spot) (b : Spot) (r0 : List Spot) (I0 : Int → (List Spot) → Prop) (M0 : Int → (List Spot) → Nat) : Prop := (InR (((l.length : Nat) : Int) - 1)) ∧ (0 ≤ ((l.length : Nat) : Int)) ∧ (((l.length : Nat) : Int) * 16 ≤ 140737488355328) ∧ (((l.length : Nat) : Int) ≤ 9223372036854775807) ∧ I0 0 (List.replicate (((l.length : Nat) : Int) : Int).toNat (⟨0, 0⟩ : Spot))
abbrev grade_along_V0 (l : List Spot) (a : Spot) (b : Spot) (r0 : List Spot) (I0 : Int → (List Spot) → Prop) (M0 : Int → (List Spot) → Nat) (v19 : Int) (w8 : List Spot) : Prop := ((v19 < ((l.length : Nat) : Int) → (Idx v19 l.length) ∧ (InR ((((l.length : Nat) : Int) - 1) - v19)) ∧ (InR (((((l.length : Nat) : Int) - 1) - v19) * a.x)) ∧ (InR (v19 * b.x)) ∧ (InR ((((((l.length : Nat) : Int) - 1) - v19) * a.x) + (v19 * b.x))) ∧ (∃ (share1 : Int), Ret Tryd.prog XS 41 [int ((((((l.length : Nat) : Int) - 1) - v19) * a.x) + (v19 * b.x)), int (((l.length : Nat) : Int) - 1)] (int share1) ∧ (InR ((ai l v19).x + share1)) ∧ (InR (((((l.length : Nat) : Int) - 1) - v19) * a.y)) ∧ (InR (v19 * b.y)) ∧ (InR ((((((l.length : Nat) : Int) - 1) - v19) * a.y) + (v19 * b.y))) ∧ (∃ (share2 : Int), Ret Tryd.prog XS 41 [int ((((((l.length : Nat) : Int) - 1) - v19) * a.y) + (v19 * b.y)), int (((l.length : Nat) : Int) - 1)] (int share2) ∧ (InR ((ai l v19).y + share2)) ∧ (Idx v19 w8.length) ∧ (InR (v19 + 1)) ∧ I0 (v19 + 1) (w8.set (v19 : Int).toNat (⟨((ai l v19).x + share1), ((ai l v19).y + share2)⟩ : Spot)) ∧ M0 (v19 + 1) (w8.set (v19 : Int).toNat (⟨((ai l v19).x + share1), ((ai l v19).y + share2)⟩ : Spot)) < M0 v19 w8))) ∧ (¬ (v19 < ((l.length : Nat) : Int)) → r0 = w8))
theorem grade_along_W0 (l : List Spot) (a : Spot) (b : Spot) (r0 : List Spot) (I0 : Int → (List Spot) → Prop) (M0 : Int → (List Spot) → Nat) (h0 : ∀ (v19 : Int) (w8 : List Spot), I0 v19 w8 → grade_along_V0 l a b r0 I0 M0 v19 w8) : ∀ (x : Int × (List Spot)), I0 x.1 x.2 → loopQ Tryd.prog XS Tryd.f28 0 (.fr 2 (r0.map cSpot)) [] (grade_along_S0 l a b x.1 x.2) := by
  intro x0 hx0
  refine loop_rule (fun (x : Int × (List Spot)) => I0 x.1 x.2) (fun (x : Int × (List Spot)) => M0 x.1 x.2) (fun (x : Int × (List Spot)) => grade_along_S0 l a b x.1 x.2) x0 hx0 ?_
  rintro ⟨v19, w8⟩ hx
  have h := h0 v19 w8 hx
  clear hx hx0 x0
  by_cases c1 : v19 < ((l.length : Nat) : Int)
  · have h := h.1 c1
    obtain ⟨c2, c3, c4, c5, c6, share1, c7, c8, c9, c10, c11, share2, c12, c13, c14, c15, h⟩ := h
    have g_1 := (osub Tryd.prog 3 (wi64 c3))
    exact sb (ts := [4, 5, 7, 8, 17, 18, 19]) (ids := [0, 1, 2]) (d := 0) (s0 := ⟨[(4, .ptr 0 0 0), (5, .ptr 1 0 0), (7, int (((l.length : Nat) : Int) - 1)), (8, .own 2 0 w8.length), (17, .sl 2 (l.map cSpot)), (18, int ((l.length : Nat) : Int)), (19, int (v19 + 1))], [(0, .box [int a.x, int a.y]), (1, .box [int b.x, int b.y]), (2, .row 2 ((w8.set (v19 : Int).toNat (⟨((ai l v19).x + share1), ((ai l v19).y + share2)⟩ : Spot)).map cSpot))], 4⟩) (ac (abt (dec_t c1)) (ac (oidx cSpot c2) (ac g_1 (ac (omul Tryd.prog 3 (wi64 c4)) (ac (omul Tryd.prog 3 (wi64 c5)) (ac (oadd Tryd.prog 3 (wi64 c6)) (ac (ocs c7) (ac (oadd Tryd.prog 3 (wi64 c8)) (ac g_1 (ac (omul Tryd.prog 3 (wi64 c9)) (ac (omul Tryd.prog 3 (wi64 c10)) (ac (oadd Tryd.prog 3 (wi64 c11)) (ac (ocs c12) (ac (oadd Tryd.prog 3 (wi64 c13)) (ac (oown cSpot (n := w8.length) rfl c14) (ac (oset cSpot (⟨((ai l v19).x + share1), ((ai l v19).y + share2)⟩ : Spot) c14) (oadd Tryd.prog 3 (wi64 c15)))))))))))))))))) (by kernel_rfl) (by kernel_rfl) rfl ((v19 + 1), (w8.set (v19 : Int).toNat (⟨((ai l v19).x + share1), ((ai l v19).y + share2)⟩ : Spot))) h.1 h.2 (Weak.anew [(0, some 0), (1, some 1), (2, some 2)] (by rfl) (wt_cons rfl (wk_ptr rfl) (wt_cons rfl (wk_ptr rfl) (wt_cons rfl wk_sc (wt_cons rfl (wk_own rfl (by simp)) (wt_cons rfl wk_sl (wt_cons rfl wk_sc (wt_cons rfl wk_sc wt_nil))))))) (wm_box rfl rfl (wl_cons wk_sc (wl_cons wk_sc wl_nil)) (wm_box rfl rfl (wl_cons wk_sc (wl_cons wk_sc wl_nil)) (wm_row rfl rfl wm_nil))))
  · have h := h.2 c1
    rw [h]
    exact sr (ids := [2]) (vs := [.own 2 0 w8.length]) (mem := [(2, .row 2 (w8.map cSpot))]) (abf (dec_f c1)) (by kernel_rfl) (by kernel_rfl) (rts_own rfl rfl rfl rfl)
theorem grade_along_W (l : List Spot) (a : Spot) (b : Spot) (r0 : List Spot) (I0 : Int → (List Spot) → Prop) (M0 : Int → (List Spot) → Nat) (h : grade_along_V l a b r0 I0 M0) (h0 : ∀ (v19 : Int) (w8 : List Spot), I0 v19 w8 → grade_along_V0 l a b r0 I0 M0 v19 w8) : Ret Tryd.prog XS 28 [.sl 2 (l.map cSpot), .agg [int a.x, int a.y], .agg [int b.x, int b.y]] (.fr 2 (r0.map cSpot)) := by
  refine fn_rule Tryd.func28 (by kernel_rfl) (by kernel_rfl) (by kernel_rfl) (by kernel_rfl) ?_
  obtain ⟨c1, c2, c3, c4, h⟩ := h
  have g_2 := (olen cSpot Tryd.prog 24 2 l (by kernel_rfl))
  exact sl (ts := [4, 5, 7, 8, 17, 18, 19]) (ids := [0, 1, 2]) (d := 0) (s0 := ⟨[(4, .ptr 0 0 0), (5, .ptr 1 0 0), (7, int (((l.length : Nat) : Int) - 1)), (8, .own 2 0 ((List.replicate (((l.length : Nat) : Int) : Int).toNat (⟨0, 0⟩ : Spot)).length)), (17, .sl 2 (l.map cSpot)), (18, int ((l.length : Nat) : Int)), (19, int 0)], [(0, .box [int a.x, int a.y]), (1, .box [int b.x, int b.y]), (2, .row 2 ((List.replicate (((l.length : Nat) : Int) : Int).toNat (⟨0, 0⟩ : Spot)).map cSpot))], 3⟩) (ac g_2 (ac (osub Tryd.prog 3 (wi64 c1)) (ac g_2 (ac (omake cSpot (v := (⟨0, 0⟩ : Spot)) (z := [int 0, int 0]) (l := ((l.length : Nat) : Int)) (b := 16) rfl c2 c3 c4) g_2)))) (by kernel_rfl) (by kernel_rfl) (Weak.anew [(0, some 0), (1, some 1), (2, some 2)] (by rfl) (wt_cons rfl (wk_ptr rfl) (wt_cons rfl (wk_ptr rfl) (wt_cons rfl wk_sc (wt_cons rfl (wk_own rfl rfl) (wt_cons rfl wk_sl (wt_cons rfl wk_sc (wt_cons rfl wk_sc wt_nil))))))) (wm_box rfl rfl (wl_cons wk_sc (wl_cons wk_sc wl_nil)) (wm_box rfl rfl (wl_cons wk_sc (wl_cons wk_sc wl_nil)) (wm_row rfl rfl wm_nil)))) (grade_along_W0 l a b r0 I0 M0 h0 (0, (List.replicate (((l.length : Nat) : Int) : Int).toNat (⟨0, 0⟩ : Spot))) h)

-- turn.Apply
abbrev turn_Apply_V (t0 : Turn) (s1 : Spot) (r0 : Spot) : Prop := ((t0.flip = true → (InR t0.quarter) ∧ (((t0.quarter % 4) = 1 → r0 = (⟨(IntKind.wrap .i64 (-s1.y)), (IntKind.wrap .i64 (-s1.x))⟩ : Spot)) ∧ (¬ ((t0.quarter % 4) = 1) → (((t0.quarter % 4) = 2 → r0 = (⟨(IntKind.wrap .i64 (-(IntKind.wrap .i64 (-s1.x)))), (IntKind.wrap .i64 (-s1.y))⟩ : Spot)) ∧ (¬ ((t0.quarter % 4) = 2) → (((t0.quarter % 4) = 3 → r0 = (⟨s1.y, (IntKind.wrap .i64 (-(IntKind.wrap .i64 (-s1.x))))⟩ : Spot)) ∧ (¬ ((t0.quarter % 4) = 3) → r0 = (⟨(IntKind.wrap .i64 (-s1.x)), s1.y⟩ : Spot)))))))) ∧ (t0.flip = false → (InR t0.quarter) ∧ (((t0.quarter % 4) = 1 → r0 = (⟨(IntKind.wrap .i64 (-s1.y)), s1.x⟩ : Spot)) ∧ (¬ ((t0.quarter % 4) = 1) → (((t0.quarter % 4) = 2 → r0 = (⟨(IntKind.wrap .i64 (-s1.x)), (IntKind.wrap .i64 (-s1.y))⟩ : Spot)) ∧ (¬ ((t0.quarter % 4) = 2) → (((t0.quarter % 4) = 3 → r0 = (⟨s1.y, (IntKind.wrap .i64 (-s1.x))⟩ : Spot)) ∧ (¬ ((t0.quarter % 4) = 3) → r0 = s1))))))))
theorem turn_Apply_W (t0 : Turn) (s1 : Spot) (r0 : Spot) (h : turn_Apply_V t0 s1 r0) : Ret Tryd.prog XS 29 [.agg [boo t0.flip, int t0.quarter], .agg [int s1.x, int s1.y]] (.agg [int r0.x, int r0.y]) := by
  refine fn_rule Tryd.func29 (by kernel_rfl) (by kernel_rfl) (by kernel_rfl) (by kernel_rfl) ?_
  rcases Bool.eq_false_or_eq_true t0.flip with c1 | c1
  · have h := h.1 c1
    obtain ⟨c2, h⟩ := h
    have g_1 := (onegw .i64 s1.x)
    have g_2 := (oand3 Tryd.prog 3 (wi64 c2))
    have e_3 := (ac (abt c1) (ac g_1 g_2))
    by_cases c3 : (t0.quarter % 4) = 1
    · have h := h.1 c3
      have g_4 := (abt (beq_t c3))
      have g_5 := (onegw .i64 s1.y)
      rw [h]
      exact sr (ids := []) (vs := [.agg [int (IntKind.wrap .i64 (-s1.y)), int (IntKind.wrap .i64 (-s1.x))]]) (mem := []) (ac e_3 (ac g_4 g_5)) (by kernel_rfl) (by kernel_rfl) (rts_agg (rcs_sc (rcs_sc (rcs_nil rfl))))
    · have h := h.2 c3
      have g_6 := (abf (beq_f c3))
      by_cases c4 : (t0.quarter % 4) = 2
      · have h := h.1 c4
        have g_7 := (abt (beq_t c4))
        have g_8 := (onegw .i64 (IntKind.wrap .i64 (-s1.x)))
        have g_9 := (onegw .i64 s1.y)
        rw [h]
        exact sr (ids := []) (vs := [.agg [int (IntKind.wrap .i64 (-(IntKind.wrap .i64 (-s1.x)))), int (IntKind.wrap .i64 (-s1.y))]]) (mem := []) (ac e_3 (ac g_6 (ac g_7 (ac g_8 g_9)))) (by kernel_rfl) (by kernel_rfl) (rts_agg (rcs_sc (rcs_sc (rcs_nil rfl))))
      · have h := h.2 c4
        have g_10 := (abf (beq_f c4))
        by_cases c5 : (t0.quarter % 4) = 3
        · have h := h.1 c5
          have g_11 := (abt (beq_t c5))
          have g_12 := (onegw .i64 (IntKind.wrap .i64 (-s1.x)))
          rw [h]
          exact sr (ids := []) (vs := [.agg [int s1.y, int (IntKind.wrap .i64 (-(IntKind.wrap .i64 (-s1.x))))]]) (mem := []) (ac e_3 (ac g_6 (ac g_10 (ac g_11 g_12)))) (by kernel_rfl) (by kernel_rfl) (rts_agg (rcs_sc (rcs_sc (rcs_nil rfl))))
        · have h := h.2 c5
          have g_13 := (abf (beq_f c5))
          rw [h]
          exact sr (ids := []) (vs := [.agg [int (IntKind.wrap .i64 (-s1.x)), int s1.y]]) (mem := []) (ac e_3 (ac g_6 (ac g_10 g_13))) (by kernel_rfl) (by kernel_rfl) (rts_agg (rcs_sc (rcs_sc (rcs_nil rfl))))
  · have h := h.2 c1
    obtain ⟨c2, h⟩ := h
    have g_14 := (oand3 Tryd.prog 3 (wi64 c2))
    have e_15 := (ac (abf c1) g_14)
    by_cases c3 : (t0.quarter % 4) = 1
    · have h := h.1 c3
      have g_16 := (abt (beq_t c3))
      have g_17 := (onegw .i64 s1.y)
      rw [h]
      exact sr (ids := []) (vs := [.agg [int (IntKind.wrap .i64 (-s1.y)), int s1.x]]) (mem := []) (ac e_15 (ac g_16 g_17)) (by kernel_rfl) (by kernel_rfl) (rts_agg (rcs_sc (rcs_sc (rcs_nil rfl))))
    · have h := h.2 c3
      have g_18 := (abf (beq_f c3))
      by_cases c4 : (t0.quarter % 4) = 2
      · have h := h.1 c4
        have g_19 := (abt (beq_t c4))
        have g_20 := (onegw .i64 s1.x)
        have g_21 := (onegw .i64 s1.y)
        rw [h]
        exact sr (ids := []) (vs := [.agg [int (IntKind.wrap .i64 (-s1.x)), int (IntKind.wrap .i64 (-s1.y))]]) (mem := []) (ac e_15 (ac g_18 (ac g_19 (ac g_20 g_21)))) (by kernel_rfl) (by kernel_rfl) (rts_agg (rcs_sc (rcs_sc (rcs_nil rfl))))
      · have h := h.2 c4
        have g_22 := (abf (beq_f c4))
        by_cases c5 : (t0.quarter % 4) = 3
        · have h := h.1 c5
          have g_23 := (abt (beq_t c5))
          have g_24 := (onegw .i64 s1.x)
          rw [h]
          exact sr (ids := []) (vs := [.agg [int s1.y, int (IntKind.wrap .i64 (-s1.x))]]) (mem := []) (ac e_15 (ac g_18 (ac g_22 (ac g_23 g_24)))) (by kernel_rfl) (by kernel_rfl) (rts_agg (rcs_sc (rcs_sc (rcs_nil rfl))))
        · have h := h.2 c5
          have g_25 := (abf (beq_f c5))
          rw [h]
          exact sr (ids := []) (vs := [.agg [int s1.x, int s1.y]]) (mem := []) (ac e_15 (ac g_18 (ac g_22 g_25))) (by kernel_rfl) (by kernel_rfl) (rts_agg (rcs_sc (rcs_sc (rcs_nil rfl))))

-- grade.mirrored
abbrev grade_mirrored_V (l : List Edge) (x : Notch) (r0 : Notch) : Prop := ((x.edge < 0 → r0 = x) ∧ (¬ (x.edge < 0) → ((x.edge ≥ ((l.length : Nat) : Int) → r0 = x) ∧ (¬ (x.edge ≥ ((l.length : Nat) : Int)) → (Idx x.edge l.length) ∧ (∃ (length1a : Int) (length1b : Int), Ret Tryd.prog XS 20 [.sl 2 (((ai l x.edge).line).map cSpot)] (.tup [int length1a, int length1b]) ∧ ((x.at_ ≥ 0 → ((x.at_ ≤ length1a → (InR (length1a - x.at_)) ∧ (InR (((l.length : Nat) : Int) - x.edge)) ∧ (((l.length : Nat) : Int) ≠ 0) ∧ r0 = (⟨((((l.length : Nat) : Int) - x.edge).tmod ((l.length : Nat) : Int)), (length1a - x.at_)⟩ : Notch)) ∧ (¬ (x.at_ ≤ length1a) → (InR (((l.length : Nat) : Int) - x.edge)) ∧ (((l.length : Nat) : Int) ≠ 0) ∧ r0 = (⟨((((l.length : Nat) : Int) - x.edge).tmod ((l.length : Nat) : Int)), 0⟩ : Notch)))) ∧ (¬ (x.at_ ≥ 0) → (InR (((l.length : Nat) : Int) - x.edge)) ∧ (((l.length : Nat) : Int) ≠ 0) ∧ r0 = (⟨((((l.length : Nat) : Int) - x.edge).tmod ((l.length : Nat) : Int)), 0⟩ : Notch))))))))
theorem grade_mirrored_W (l : List Edge) (x : Notch) (r0 : Notch) (h : grade_mirrored_V l x r0) : Ret Tryd.prog XS 30 [.sl 2 (l.map cEdge), .agg [int x.edge, int x.at_]] (.agg [int r0.edge, int r0.at_]) := by
  refine fn_rule Tryd.func30 (by kernel_rfl) (by kernel_rfl) (by kernel_rfl) (by kernel_rfl) ?_
  by_cases c1 : x.edge < 0
  · have h := h.1 c1
    have g_1 := (abt (dec_t c1))
    rw [h]
    exact sr (ids := []) (vs := [.agg [int x.edge, int x.at_]]) (mem := []) (ac g_1 (ac g_1 (ac g_1 (ac g_1 (ac g_1 (ac g_1 abtt)))))) (by kernel_rfl) (by kernel_rfl) (rts_agg (rcs_sc (rcs_sc (rcs_nil rfl))))
  · have h := h.2 c1
    have g_2 := (abf (dec_f c1))
    have g_3 := (olen cEdge Tryd.prog 22 2 l (by kernel_rfl))
    have e_4 := (ac g_2 (ac g_2 (ac g_2 (ac g_2 (ac g_3 (ac g_2 g_2))))))
    by_cases c2 : x.edge ≥ ((l.length : Nat) : Int)
    · have h := h.1 c2
      rw [h]
      exact sr (ids := []) (vs := [.agg [int x.edge, int x.at_]]) (mem := []) (ac e_4 (abt (dec_t c2))) (by kernel_rfl) (by kernel_rfl) (rts_agg (rcs_sc (rcs_sc (rcs_nil rfl))))
    · have h := h.2 c2
      obtain ⟨c3, length1a, length1b, c4, h⟩ := h
      have e_5 := (ac (abf (dec_f c2)) (ac (oidx cEdge c3) (ocs c4)))
      by_cases c5 : x.at_ ≥ 0
      · have h := h.1 c5
        have g_6 := (abt (dec_t c5))
        have e_7 := (ac g_6 (ac g_6 (ac g_6 (ac g_6 g_6))))
        by_cases c6 : x.at_ ≤ length1a
        · have h := h.1 c6
          obtain ⟨c7, c8, c9, h⟩ := h
          have g_8 := (osub Tryd.prog 3 (wi64 c7))
          rw [h]
          exact sr (ids := []) (vs := [.agg [int ((((l.length : Nat) : Int) - x.edge).tmod ((l.length : Nat) : Int)), int (length1a - x.at_)]]) (mem := []) (ac e_4 (ac e_5 (ac e_7 (ac (abt (dec_t c6)) (ac g_8 (ac g_3 (ac (osub Tryd.prog 3 (wi64 c8)) (ac g_3 (orem Tryd.prog 3 .i64 (((l.length : Nat) : Int) - x.edge) ((l.length : Nat) : Int) c9))))))))) (by kernel_rfl) (by kernel_rfl) (rts_agg (rcs_sc (rcs_sc (rcs_nil rfl))))
        · have h := h.2 c6
          obtain ⟨c7, c8, h⟩ := h
          have g_9 := (osub Tryd.prog 3 (wi64 c7))
          rw [h]
          exact sr (ids := []) (vs := [.agg [int ((((l.length : Nat) : Int) - x.edge).tmod ((l.length : Nat) : Int)), int 0]]) (mem := []) (ac e_4 (ac e_5 (ac e_7 (ac (abf (dec_f c6)) (ac g_3 (ac g_9 (ac g_3 (orem Tryd.prog 3 .i64 (((l.length : Nat) : Int) - x.edge) ((l.length : Nat) : Int) c8)))))))) (by kernel_rfl) (by kernel_rfl) (rts_agg (rcs_sc (rcs_sc (rcs_nil rfl))))
      · have h := h.2 c5
        obtain ⟨c6, c7, h⟩ := h
        have g_10 := (abf (dec_f c5))
        rw [h]
        exact sr (ids := []) (vs := [.agg [int ((((l.length : Nat) : Int) - x.edge).tmod ((l.length : Nat) : Int)), int 0]]) (mem := []) (ac e_4 (ac e_5 (ac g_10 (ac g_10 (ac g_10 (ac g_10 (ac g_10 (ac abff (ac g_3 (ac (osub Tryd.prog 3 (wi64 c6)) (ac g_3 (orem Tryd.prog 3 .i64 (((l.length : Nat) : Int) - x.edge) ((l.length : Nat) : Int) c7)))))))))))) (by kernel_rfl) (by kernel_rfl) (rts_agg (rcs_sc (rcs_sc (rcs_nil rfl))))

-- turn.Poly
def turn_Poly_S0 (t0 : Turn) (p : List Spot) (v14 : Int) (w5 : List Spot) : AS := ⟨[(1, .sl 2 (p.map cSpot)), (2, .ptr 0 0 0), (5, .own 1 0 w5.length), (12, .sl 2 (p.map cSpot)), (13, int ((p.length : Nat) : Int)), (14, int v14)], [(0, .box [boo t0.flip, int t0.quarter]), (1, .row 2 (w5.map cSpot))], 2⟩
abbrev turn_Poly_V (t0 : Turn) (p : List Spot) (r0 : List Spot) (I0 : Int → (List Spot) → Prop) (M0 : Int → (List Spot) → Nat) : Prop := (0 ≤ ((p.length : Nat) : Int)) ∧ (((p.length : Nat) : Int) * 16 ≤ 140737488355328) ∧ (((p.length : Nat) : Int) ≤ 9223372036854775807) ∧ I0 0 (List.replicate (((p.length : Nat) : Int) : Int).toNat (⟨0, 0⟩ : Spot))
abbrev turn_Poly_V0 (t0 : Turn) (p : List Spot) (r0 : List Spot) (I0 : Int → (List Spot) → Prop) (M0 : Int → (List Spot) → Nat) (v14 : Int) (w5 : List Spot) : Prop := ((v14 < ((p.length : Nat) : Int) → (Idx v14 p.length) ∧ ((t0.flip = true → (InR (((p.length : Nat) : Int) - 1)) ∧ (InR ((((p.length : Nat) : Int) - 1) - v14)) ∧ (∃ (apply1 : Spot), Ret Tryd.prog XS 29 [.agg [boo t0.flip, int t0.quarter], .agg [int ((ai p v14).x), int ((ai p v14).y)]] (.agg [int apply1.x, int apply1.y]) ∧ (Idx ((((p.length : Nat) : Int) - 1) - v14) w5.length) ∧ (InR (v14 + 1)) ∧ I0 (v14 + 1) (w5.set (((((p.length : Nat) : Int) - 1) - v14) : Int).toNat apply1) ∧ M0 (v14 + 1) (w5.set (((((p.length : Nat) : Int) - 1) - v14) : Int).toNat apply1) < M0 v14 w5)) ∧ (t0.flip = false → (∃ (apply1 : Spot), Ret Tryd.prog XS 29 [.agg [boo t0.flip, int t0.quarter], .agg [int ((ai p v14).x), int ((ai p v14).y)]] (.agg [int apply1.x, int apply1.y]) ∧ (Idx v14 w5.length) ∧ (InR (v14 + 1)) ∧ I0 (v14 + 1) (w5.set (v14 : Int).toNat apply1) ∧ M0 (v14 + 1) (w5.set (v14 : Int).toNat apply1) < M0 v14 w5)))) ∧ (¬ (v14 < ((p.length : Nat) : Int)) → r0 = w5))
theorem turn_Poly_W0 (t0 : Turn) (p : List Spot) (r0 : List Spot) (I0 : Int → (List Spot) → Prop) (M0 : Int → (List Spot) → Nat) (h0 : ∀ (v14 : Int) (w5 : List Spot), I0 v14 w5 → turn_Poly_V0 t0 p r0 I0 M0 v14 w5) : ∀ (x : Int × (List Spot)), I0 x.1 x.2 → loopQ Tryd.prog XS Tryd.f31 0 (.fr 2 (r0.map cSpot)) [] (turn_Poly_S0 t0 p x.1 x.2) := by
  intro x0 hx0
  refine loop_rule (fun (x : Int × (List Spot)) => I0 x.1 x.2) (fun (x : Int × (List Spot)) => M0 x.1 x.2) (fun (x : Int × (List Spot)) => turn_Poly_S0 t0 p x.1 x.2) x0 hx0 ?_
  rintro ⟨v14, w5⟩ hx
  have h := h0 v14 w5 hx
  clear hx hx0 x0
  by_cases c1 : v14 < ((p.length : Nat) : Int)
  · have h := h.1 c1
    obtain ⟨c2, h⟩ := h
    have e_1 := (ac (abt (dec_t c1)) (oidx cSpot c2))
    rcases Bool.eq_false_or_eq_true t0.flip with c3 | c3
    · have h := h.1 c3
      obtain ⟨c4, c5, apply1, c6, c7, c8, h⟩ := h
      have g_2 := (olen cSpot Tryd.prog 24 2 p (by kernel_rfl))
      exact sb (ts := [1, 2, 5, 12, 13, 14]) (ids := [0, 1]) (d := 0) (s0 := ⟨[(1, .sl 2 (p.map cSpot)), (2, .ptr 0 0 0), (5, .own 1 0 w5.length), (12, .sl 2 (p.map cSpot)), (13, int ((p.length : Nat) : Int)), (14, int (v14 + 1))], [(0, .box [boo t0.flip, int t0.quarter]), (1, .row 2 ((w5.set (((((p.length : Nat) : Int) - 1) - v14) : Int).toNat apply1).map cSpot))], 3⟩) (ac e_1 (ac (abt c3) (ac g_2 (ac (osub Tryd.prog 3 (wi64 c4)) (ac (osub Tryd.prog 3 (wi64 c5)) (ac (ocs c6) (ac (oown cSpot (n := w5.length) rfl c7) (ac (oset cSpot apply1 c7) (oadd Tryd.prog 3 (wi64 c8)))))))))) (by kernel_rfl) (by kernel_rfl) rfl ((v14 + 1), (w5.set (((((p.length : Nat) : Int) - 1) - v14) : Int).toNat apply1)) h.1 h.2 (Weak.anew [(0, some 0), (1, some 1)] (by rfl) (wt_cons rfl wk_sl (wt_cons rfl (wk_ptr rfl) (wt_cons rfl (wk_own rfl (by simp)) (wt_cons rfl wk_sl (wt_cons rfl wk_sc (wt_cons rfl wk_sc wt_nil)))))) (wm_box rfl rfl (wl_cons wk_sc (wl_cons wk_sc wl_nil)) (wm_row rfl rfl wm_nil)))
    · have h := h.2 c3
      obtain ⟨apply1, c4, c5, c6, h⟩ := h
      exact sb (ts := [1, 2, 5, 12, 13, 14]) (ids := [0, 1]) (d := 0) (s0 := ⟨[(1, .sl 2 (p.map cSpot)), (2, .ptr 0 0 0), (5, .own 1 0 w5.length), (12, .sl 2 (p.map cSpot)), (13, int ((p.length : Nat) : Int)), (14, int (v14 + 1))], [(0, .box [boo t0.flip, int t0.quarter]), (1, .row 2 ((w5.set (v14 : Int).toNat apply1).map cSpot))], 3⟩) (ac e_1 (ac (abf c3) (ac (ocs c4) (ac (oown cSpot (n := w5.length) rfl c5) (ac (oset cSpot apply1 c5) (oadd Tryd.prog 3 (wi64 c6))))))) (by kernel_rfl) (by kernel_rfl) rfl ((v14 + 1), (w5.set (v14 : Int).toNat apply1)) h.1 h.2 (Weak.anew [(0, some 0), (1, some 1)] (by rfl) (wt_cons rfl wk_sl (wt_cons rfl (wk_ptr rfl) (wt_cons rfl (wk_own rfl (by simp)) (wt_cons rfl wk_sl (wt_cons rfl wk_sc (wt_cons rfl wk_sc wt_nil)))))) (wm_box rfl rfl (wl_cons wk_sc (wl_cons wk_sc wl_nil)) (wm_row rfl rfl wm_nil)))
  · have h := h.2 c1
    rw [h]
    exact sr (ids := [1]) (vs := [.own 1 0 w5.length]) (mem := [(1, .row 2 (w5.map cSpot))]) (abf (dec_f c1)) (by kernel_rfl) (by kernel_rfl) (rts_own rfl rfl rfl rfl)
theorem turn_Poly_W (t0 : Turn) (p : List Spot) (r0 : List Spot) (I0 : Int → (List Spot) → Prop) (M0 : Int → (List Spot) → Nat) (h : turn_Poly_V t0 p r0 I0 M0) (h0 : ∀ (v14 : Int) (w5 : List Spot), I0 v14 w5 → turn_Poly_V0 t0 p r0 I0 M0 v14 w5) : Ret Tryd.prog XS 31 [.agg [boo t0.flip, int t0.quarter], .sl 2 (p.map cSpot)] (.fr 2 (r0.map cSpot)) := by
  refine fn_rule Tryd.func31 (by kernel_rfl) (by kernel_rfl) (by kernel_rfl) (by kernel_rfl) ?_
  obtain ⟨c1, c2, c3, h⟩ := h
  have g_3 := (olen cSpot Tryd.prog 24 2 p (by kernel_rfl))
  exact sl (ts := [1, 2, 5, 12, 13, 14]) (ids := [0, 1]) (d := 0) (s0 := ⟨[(1, .sl 2 (p.map cSpot)), (2, .ptr 0 0 0), (5, .own 1 0 ((List.replicate (((p.length : Nat) : Int) : Int).toNat (⟨0, 0⟩ : Spot)).length)), (12, .sl 2 (p.map cSpot)), (13, int ((p.length : Nat) : Int)), (14, int 0)], [(0, .box [boo t0.flip, int t0.quarter]), (1, .row 2 ((List.replicate (((p.length : Nat) : Int) : Int).toNat (⟨0, 0⟩ : Spot)).map cSpot))], 2⟩) (ac g_3 (ac (omake cSpot (v := (⟨0, 0⟩ : Spot)) (z := [int 0, int 0]) (l := ((p.length : Nat) : Int)) (b := 16) rfl c1 c2 c3) g_3)) (by kernel_rfl) (by kernel_rfl) (Weak.anew [(0, some 0), (1, some 1)] (by rfl) (wt_cons rfl wk_sl (wt_cons rfl (wk_ptr rfl) (wt_cons rfl (wk_own rfl rfl) (wt_cons rfl wk_sl (wt_cons rfl wk_sc (wt_cons rfl wk_sc wt_nil)))))) (wm_box rfl rfl (wl_cons wk_sc (wl_cons wk_sc wl_nil)) (wm_row rfl rfl wm_nil))) (turn_Poly_W0 t0 p r0 I0 M0 h0 (0, (List.replicate (((p.length : Nat) : Int) : Int).toNat (⟨0, 0⟩ : Spot))) h)

-- outline.Polygon
abbrev outline_Polygon_V (l : List Edge) (r0 : List Spot) (r1 : Int) : Prop := (∃ (check1 : Int), Ret Tryd.prog XS 19 [.sl 2 (l.map cEdge)] (int check1) ∧ ((check1 = 0 → (∃ (vertices2 : List Spot), Ret Tryd.prog XS 37 [.sl 2 (l.map cEdge)] (.fr 2 (vertices2.map cSpot)) ∧ r0 = vertices2 ∧ r1 = 0)) ∧ (¬ (check1 = 0) → r0 = ([] : List Spot) ∧ r1 = check1)))
theorem outline_Polygon_W (l : List Edge) (r0 : List Spot) (r1 : Int) (h : outline_Polygon_V l r0 r1) : Ret Tryd.prog XS 33 [.sl 2 (l.map cEdge)] (.tup [.fr 2 (r0.map cSpot), int r1]) := by
  refine fn_rule Tryd.func33 (by kernel_rfl) (by kernel_rfl) (by kernel_rfl) (by kernel_rfl) ?_
  obtain ⟨check1, c1, h⟩ := h
  have e_1 := (ocs c1)
  by_cases c2 : check1 = 0
  · have h := h.1 c2
    obtain ⟨vertices2, c3, h⟩ := h
    rw [h.1, h.2]
    exact sr (ids := [0]) (vs := [.own 0 0 ((vertices2.map cSpot).length), int 0]) (mem := [(0, .row 2 (vertices2.map cSpot))]) (ac e_1 (ac (abf (bne_f c2)) (ocs c3))) (by kernel_rfl) (by kernel_rfl) (rts_own (List.length_map ..) rfl rfl (rts_sc rfl))
  · have h := h.2 c2
    rw [h.1, h.2]
    exact sr (ids := []) (vs := [.nil, int check1]) (mem := []) (ac e_1 (abt (bne_t c2))) (by kernel_rfl) (by kernel_rfl) (rts_nilfr (rts_sc rfl))

-- polygon.Area2
abbrev polygon_Area2_V (p : List Spot) (r0 : Int) : Prop := (∃ (check1 : Int), Ret Tryd.prog XS 36 [.sl 2 (p.map cSpot)] (int check1) ∧ ((check1 = 0 → (∃ (area2 : Int), Ret Tryd.prog XS 42 [.sl 2 (p.map cSpot)] (int area2) ∧ r0 = area2)) ∧ (¬ (check1 = 0) → r0 = 0)))
theorem polygon_Area2_W (p : List Spot) (r0 : Int) (h : polygon_Area2_V p r0) : Ret Tryd.prog XS 34 [.sl 2 (p.map cSpot)] (int r0) := by
  refine fn_rule Tryd.func34 (by kernel_rfl) (by kernel_rfl) (by kernel_rfl) (by kernel_rfl) ?_
  obtain ⟨check1, c1, h⟩ := h
  have e_1 := (ocs c1)
  by_cases c2 : check1 = 0
  · have h := h.1 c2
    obtain ⟨area2, c3, h⟩ := h
    rw [h]
    exact sr (ids := []) (vs := [int area2]) (mem := []) (ac e_1 (ac (abf (bne_f c2)) (ocs c3))) (by kernel_rfl) (by kernel_rfl) (rts_sc rfl)
  · have h := h.2 c2
    rw [h]
    exact sr (ids := []) (vs := [int 0]) (mem := []) (ac e_1 (abt (bne_t c2))) (by kernel_rfl) (by kernel_rfl) (rts_sc rfl)

-- outline.edges
def outline_edges_S0 (l : List Edge) (v8 : Int) : AS := ⟨[(0, .sl 2 (l.map cEdge)), (6, .sl 2 (l.map cEdge)), (7, int ((l.length : Nat) : Int)), (8, int v8)], [], 0⟩
abbrev outline_edges_V (l : List Edge) (r0 : Int) (I0 : Int → Prop) (M0 : Int → Nat) : Prop := I0 0
abbrev outline_edges_V0 (l : List Edge) (r0 : Int) (I0 : Int → Prop) (M0 : Int → Nat) (v8 : Int) : Prop := ((v8 < ((l.length : Nat) : Int) → (Idx v8 l.length) ∧ (∃ (named1 : Bool), Ret Tryd.prog XS 43 [str ((ai l v8).name)] (boo named1) ∧ ((named1 = true → (Slc 0 v8 l.length) ∧ (∃ (edge2 : Bool), Ret Tryd.prog XS 44 [.sl 2 ((cut l 0 v8).map cEdge), .fn 45 [] [.ref [str ((ai l v8).name), .sl 2 (((ai l v8).line).map cSpot)]]] (boo edge2) ∧ ((edge2 = true → r0 = 7) ∧ (edge2 = false → (∃ (check3 : Int), Ret Tryd.prog XS 38 [.sl 2 (((ai l v8).line).map cSpot)] (int check3) ∧ ((check3 = 0 → (InR (v8 + 1)) ∧ I0 (v8 + 1) ∧ M0 (v8 + 1) < M0 v8) ∧ (¬ (check3 = 0) → r0 = check3))))))) ∧ (named1 = false → r0 = 1)))) ∧ (¬ (v8 < ((l.length : Nat) : Int)) → r0 = 0))
theorem outline_edges_W0 (l : List Edge) (r0 : Int) (I0 : Int → Prop) (M0 : Int → Nat) (h0 : ∀ (v8 : Int), I0 v8 → outline_edges_V0 l r0 I0 M0 v8) : ∀ (x : Int), I0 x → loopQ Tryd.prog XS Tryd.f35 0 (int r0) [] (outline_edges_S0 l x) := by
  intro x0 hx0
  refine loop_rule (fun (x : Int) => I0 x) (fun (x : Int) => M0 x) (fun (x : Int) => outline_edges_S0 l x) x0 hx0 ?_
  intro v8 hx
  have h := h0 v8 hx
  clear hx hx0 x0
  by_cases c1 : v8 < ((l.length : Nat) : Int)
  · have h := h.1 c1
    obtain ⟨c2, named1, c3, h⟩ := h
    have e_1 := (ac (abt (dec_t c1)) (ac (oidx cEdge c2) (ocs c3)))
    rcases Bool.eq_false_or_eq_true named1 with c4 | c4
    · have h := h.1 c4
      obtain ⟨c5, edge2, c6, h⟩ := h
      have e_2 := (ac (abf (not_f c4)) (ac (ocut0 cEdge 2 c5) (ocl [0] [(0, .box [str ((ai l v8).name), .sl 2 (((ai l v8).line).map cSpot)])] [.sl 2 ((cut l 0 v8).map cEdge), .fn 45 [] [.ptr 0 0 0]] (as_cons (ArgTo.same rfl) (as_cons (at_fn as_nil (as_cons (at_ptr rfl (as_cons (ArgTo.same rfl) (as_cons (ArgTo.same rfl) as_nil))) as_nil)) as_nil)) c6)))
      rcases Bool.eq_false_or_eq_true edge2 with c7 | c7
      · have h := h.1 c7
        rw [h]
        exact sr (ids := []) (vs := [int 7]) (mem := []) (ac e_1 (ac e_2 (abt c7))) (by kernel_rfl) (by kernel_rfl) (rts_sc rfl)
      · have h := h.2 c7
        obtain ⟨check3, c8, h⟩ := h
        have e_3 := (ac (abf c7) (ocs c8))
        by_cases c9 : check3 = 0
        · have h := h.1 c9
          obtain ⟨c10, h⟩ := h
          exact sb (ts := [0, 6, 7, 8]) (ids := []) (d := 0) (s0 := ⟨[(0, .sl 2 (l.map cEdge)), (6, .sl 2 (l.map cEdge)), (7, int ((l.length : Nat) : Int)), (8, int (v8 + 1))], [], 1⟩) (ac e_1 (ac e_2 (ac e_3 (ac (abf (bne_f c9)) (oadd Tryd.prog 3 (wi64 c10)))))) (by kernel_rfl) (by kernel_rfl) rfl (v8 + 1) h.1 h.2 (Weak.anew [] (by rfl) (wt_cons rfl wk_sl (wt_cons rfl wk_sl (wt_cons rfl wk_sc (wt_cons rfl wk_sc wt_nil)))) wm_nil)
        · have h := h.2 c9
          rw [h]
          exact sr (ids := []) (vs := [int check3]) (mem := []) (ac e_1 (ac e_2 (ac e_3 (abt (bne_t c9))))) (by kernel_rfl) (by kernel_rfl) (rts_sc rfl)
    · have h := h.2 c4
      rw [h]
      exact sr (ids := []) (vs := [int 1]) (mem := []) (ac e_1 (abt (not_t c4))) (by kernel_rfl) (by kernel_rfl) (rts_sc rfl)
  · have h := h.2 c1
    rw [h]
    exact sr (ids := []) (vs := [int 0]) (mem := []) (abf (dec_f c1)) (by kernel_rfl) (by kernel_rfl) (rts_sc rfl)
theorem outline_edges_W (l : List Edge) (r0 : Int) (I0 : Int → Prop) (M0 : Int → Nat) (h : outline_edges_V l r0 I0 M0) (h0 : ∀ (v8 : Int), I0 v8 → outline_edges_V0 l r0 I0 M0 v8) : Ret Tryd.prog XS 35 [.sl 2 (l.map cEdge)] (int r0) := by
  refine fn_rule Tryd.func35 (by kernel_rfl) (by kernel_rfl) (by kernel_rfl) (by kernel_rfl) ?_
  exact sl (ts := [0, 6, 7, 8]) (ids := []) (d := 0) (s0 := ⟨[(0, .sl 2 (l.map cEdge)), (6, .sl 2 (l.map cEdge)), (7, int ((l.length : Nat) : Int)), (8, int 0)], [], 0⟩) (olen cEdge Tryd.prog 22 2 l (by kernel_rfl)) (by kernel_rfl) (by kernel_rfl) (Weak.anew [] (by rfl) (wt_cons rfl wk_sl (wt_cons rfl wk_sl (wt_cons rfl wk_sc (wt_cons rfl wk_sc wt_nil)))) wm_nil) (outline_edges_W0 l r0 I0 M0 h0 0 h)

end Go.Ab
end
