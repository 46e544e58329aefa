/- A part of the proof. Conditions: those of each theorem. -/
import Derived.Test.YtmdeiagmlabfmaaDoorDTy
import Derived.Test.YtmdeiagmlabfmaaDoorDWall
set_option linter.unusedVariables false
set_option linter.unusedSimpArgs false
set_option linter.unusedSectionVars false

section
namespace Go.Ab
open Go.Proofs
set_option maxRecDepth 100000
set_option linter.unusedVariables false
attribute [local irreducible] todoQ
-- garmentlaw21.GradeBack
def garmentlaw21_GradeBack_S0 (p : Piece) (multiple : Int) (v19 : Int) : AS := ⟨[(1, int multiple), (2, .ptr 0 0 0), (17, .sl 2 (p.edges.map cEdge)), (18, int ((p.edges.length : Nat) : Int)), (19, int v19)], [(0, .box [str p.name, .sl 2 (p.edges.map cEdge), int p.grain, .sl 2 (p.notches.map cNotch), .sl 2 (p.corners.map cSpot), .sl 1 (p.widths.map cI), boo p.match_])], 1⟩
abbrev garmentlaw21_GradeBack_V (p : Piece) (multiple : Int) (r0 : Bool) (I0 : Int → Prop) (M0 : Int → Nat) : Prop := (∃ (light1 : Bool), Ret Tryd.prog XS 9 [.agg [str p.name, .sl 2 (p.edges.map cEdge), int p.grain, .sl 2 (p.notches.map cNotch), .sl 2 (p.corners.map cSpot), .sl 1 (p.widths.map cI), boo p.match_], int 40] (boo light1) ∧ ((light1 = true → I0 0) ∧ (light1 = false → (∃ (exampleHolds2 : Bool), Ret Tryd.prog XS 10 [] (boo exampleHolds2) ∧ r0 = exampleHolds2))))
abbrev garmentlaw21_GradeBack_V0 (p : Piece) (multiple : Int) (r0 : Bool) (I0 : Int → Prop) (M0 : Int → Nat) (v19 : Int) : Prop := ((v19 < ((p.edges.length : Nat) : Int) → (Idx v19 p.edges.length) ∧ ((((((ai p.edges v19).line).length : Nat) : Int) = 2 → (InR (v19 + 1)) ∧ I0 (v19 + 1) ∧ M0 (v19 + 1) < M0 v19) ∧ (¬ (((((ai p.edges v19).line).length : Nat) : Int) = 2) → (∃ (exampleHolds1 : Bool), Ret Tryd.prog XS 10 [] (boo exampleHolds1) ∧ r0 = exampleHolds1)))) ∧ (¬ (v19 < ((p.edges.length : Nat) : Int)) → (∃ (graded1a : List Edge) (graded1b : Int), Ret Tryd.prog XS 11 [.agg [str p.name, .sl 2 (p.edges.map cEdge), int p.grain, .sl 2 (p.notches.map cNotch), .sl 2 (p.corners.map cSpot), .sl 1 (p.widths.map cI), boo p.match_], int multiple] (.tup [.fr 2 (graded1a.map cEdge), int graded1b]) ∧ ((graded1b = 0 → (InR (-multiple)) ∧ (∃ (graded2a : List Edge) (graded2b : Int), Ret Tryd.prog XS 11 [.agg [str p.name, .sl 2 (graded1a.map cEdge), int p.grain, .sl 2 (p.notches.map cNotch), .sl 2 (p.corners.map cSpot), .sl 1 (p.widths.map cI), boo p.match_], int (-multiple)] (.tup [.fr 2 (graded2a.map cEdge), int graded2b]) ∧ ((graded2b = 0 → (∃ (sameEdges3 : Bool), Ret Tryd.prog XS 13 [.sl 2 (graded2a.map cEdge), .sl 2 (p.edges.map cEdge)] (boo sameEdges3) ∧ ((sameEdges3 = true → (∃ (exampleHolds4 : Bool), Ret Tryd.prog XS 10 [] (boo exampleHolds4) ∧ r0 = exampleHolds4)) ∧ (sameEdges3 = false → r0 = false)))) ∧ (¬ (graded2b = 0) → r0 = false)))) ∧ (¬ (graded1b = 0) → (∃ (exampleHolds2 : Bool), Ret Tryd.prog XS 10 [] (boo exampleHolds2) ∧ r0 = exampleHolds2))))))
theorem garmentlaw21_GradeBack_W0 (p : Piece) (multiple : Int) (r0 : Bool) (I0 : Int → Prop) (M0 : Int → Nat) (h0 : ∀ (v19 : Int), I0 v19 → garmentlaw21_GradeBack_V0 p multiple r0 I0 M0 v19) : ∀ (x : Int), I0 x → loopQ Tryd.prog XS Tryd.f5 0 (boo r0) [] (garmentlaw21_GradeBack_S0 p multiple x) := by
  intro x0 hx0
  refine loop_rule (fun (x : Int) => I0 x) (fun (x : Int) => M0 x) (fun (x : Int) => garmentlaw21_GradeBack_S0 p multiple x) x0 hx0 ?_
  intro v19 hx
  have h := h0 v19 hx
  clear hx hx0 x0
  by_cases c1 : v19 < ((p.edges.length : Nat) : Int)
  · have h := h.1 c1
    obtain ⟨c2, h⟩ := h
    have e_1 := (ac (abt (dec_t c1)) (ac (oidx cEdge c2) (olen cSpot Tryd.prog 24 2 ((ai p.edges v19).line) (by kernel_rfl))))
    by_cases c3 : ((((ai p.edges v19).line).length : Nat) : Int) = 2
    · have h := h.1 c3
      obtain ⟨c4, h⟩ := h
      have g_2 := (abf (bne_f c3))
      exact sb (ts := [1, 2, 17, 18, 19]) (ids := [0]) (d := 0) (s0 := ⟨[(1, int multiple), (2, .ptr 0 0 0), (17, .sl 2 (p.edges.map cEdge)), (18, int ((p.edges.length : Nat) : Int)), (19, int (v19 + 1))], [(0, .box [str p.name, .sl 2 (p.edges.map cEdge), int p.grain, .sl 2 (p.notches.map cNotch), .sl 2 (p.corners.map cSpot), .sl 1 (p.widths.map cI), boo p.match_])], 2⟩) (ac e_1 (ac g_2 (oadd Tryd.prog 3 (wi64 c4)))) (by kernel_rfl) (by kernel_rfl) rfl (v19 + 1) h.1 h.2 (Weak.anew [(0, some 0)] (by rfl) (wt_cons rfl wk_sc (wt_cons rfl (wk_ptr rfl) (wt_cons rfl wk_sl (wt_cons rfl wk_sc (wt_cons rfl wk_sc wt_nil))))) (wm_box rfl rfl (wl_cons wk_sc (wl_cons wk_sl (wl_cons wk_sc (wl_cons wk_sl (wl_cons wk_sl (wl_cons wk_sl (wl_cons wk_sc wl_nil))))))) wm_nil))
    · have h := h.2 c3
      obtain ⟨exampleHolds1, c4, h⟩ := h
      have g_3 := (abt (bne_t c3))
      rw [h]
      exact sr (ids := []) (vs := [boo exampleHolds1]) (mem := []) (ac e_1 (ac g_3 (ocs c4))) (by kernel_rfl) (by kernel_rfl) (rts_sc rfl)
  · have h := h.2 c1
    obtain ⟨graded1a, graded1b, c2, h⟩ := h
    have e_4 := (ac (abf (dec_f c1)) (ocs c2))
    by_cases c3 : graded1b = 0
    · have h := h.1 c3
      obtain ⟨c4, graded2a, graded2b, c5, h⟩ := h
      have g_5 := (abf (bne_f c3))
      have e_6 := (ac g_5 (ac (oneg (wi64 c4)) (ocl [1] [(1, .row 2 (graded1a.map cEdge))] [.agg [str p.name, .own 1 0 ((graded1a.map cEdge).length), int p.grain, .sl 2 (p.notches.map cNotch), .sl 2 (p.corners.map cSpot), .sl 1 (p.widths.map cI), boo p.match_], int (-multiple)] (as_cons (at_agg (as_cons (ArgTo.same rfl) (as_cons (at_row (List.length_map ..) rfl) (as_cons (ArgTo.same rfl) (as_cons (ArgTo.same rfl) (as_cons (ArgTo.same rfl) (as_cons (ArgTo.same rfl) (as_cons (ArgTo.same rfl) as_nil)))))))) (as_cons (ArgTo.same rfl) as_nil)) c5)))
      by_cases c6 : graded2b = 0
      · have h := h.1 c6
        obtain ⟨sameEdges3, c7, h⟩ := h
        have g_7 := (abt (beq_t c6))
        have e_8 := (ac g_7 (ac g_7 (ac g_7 (ac g_7 (ac (ocl [3] [(3, .row 2 (graded2a.map cEdge))] [.own 3 0 ((graded2a.map cEdge).length), .sl 2 (p.edges.map cEdge)] (as_cons (at_row (List.length_map ..) rfl) (as_cons (ArgTo.same rfl) as_nil)) c7) g_7)))))
        rcases Bool.eq_false_or_eq_true sameEdges3 with c8 | c8
        · have h := h.1 c8
          obtain ⟨exampleHolds4, c9, h⟩ := h
          rw [h]
          exact sr (ids := []) (vs := [boo exampleHolds4]) (mem := []) (ac e_4 (ac e_6 (ac e_8 (ac (abt c8) (ac (ocs c9) (abt c8)))))) (by kernel_rfl) (by kernel_rfl) (rts_sc rfl)
        · have h := h.2 c8
          rw [h]
          exact sr (ids := []) (vs := [boo false]) (mem := []) (ac e_4 (ac e_6 (ac e_8 (ac (abf c8) (abf c8))))) (by kernel_rfl) (by kernel_rfl) (rts_sc rfl)
      · have h := h.2 c6
        have g_9 := (abf (beq_f c6))
        rw [h]
        exact sr (ids := []) (vs := [boo false]) (mem := []) (ac e_4 (ac e_6 (ac g_9 (ac g_9 (ac g_9 (ac g_9 (ac g_9 (ac abff abff)))))))) (by kernel_rfl) (by kernel_rfl) (rts_sc rfl)
    · have h := h.2 c3
      obtain ⟨exampleHolds2, c4, h⟩ := h
      have g_10 := (abt (bne_t c3))
      rw [h]
      exact sr (ids := []) (vs := [boo exampleHolds2]) (mem := []) (ac e_4 (ac g_10 (ocs c4))) (by kernel_rfl) (by kernel_rfl) (rts_sc rfl)
theorem garmentlaw21_GradeBack_W (p : Piece) (multiple : Int) (r0 : Bool) (I0 : Int → Prop) (M0 : Int → Nat) (h : garmentlaw21_GradeBack_V p multiple r0 I0 M0) (h0 : ∀ (v19 : Int), I0 v19 → garmentlaw21_GradeBack_V0 p multiple r0 I0 M0 v19) : Ret Tryd.prog XS 5 [.agg [str p.name, .sl 2 (p.edges.map cEdge), int p.grain, .sl 2 (p.notches.map cNotch), .sl 2 (p.corners.map cSpot), .sl 1 (p.widths.map cI), boo p.match_], int multiple] (boo r0) := by
  refine fn_rule Tryd.func5 (by kernel_rfl) (by kernel_rfl) (by kernel_rfl) (by kernel_rfl) ?_
  obtain ⟨light1, c1, h⟩ := h
  have e_11 := (ocs c1)
  rcases Bool.eq_false_or_eq_true light1 with c2 | c2
  · have h := h.1 c2
    exact sl (ts := [1, 2, 17, 18, 19]) (ids := [0]) (d := 0) (s0 := ⟨[(1, int multiple), (2, .ptr 0 0 0), (17, .sl 2 (p.edges.map cEdge)), (18, int ((p.edges.length : Nat) : Int)), (19, int 0)], [(0, .box [str p.name, .sl 2 (p.edges.map cEdge), int p.grain, .sl 2 (p.notches.map cNotch), .sl 2 (p.corners.map cSpot), .sl 1 (p.widths.map cI), boo p.match_])], 1⟩) (ac e_11 (ac (abf (not_f c2)) (olen cEdge Tryd.prog 22 2 p.edges (by kernel_rfl)))) (by kernel_rfl) (by kernel_rfl) (Weak.anew [(0, some 0)] (by rfl) (wt_cons rfl wk_sc (wt_cons rfl (wk_ptr rfl) (wt_cons rfl wk_sl (wt_cons rfl wk_sc (wt_cons rfl wk_sc wt_nil))))) (wm_box rfl rfl (wl_cons wk_sc (wl_cons wk_sl (wl_cons wk_sc (wl_cons wk_sl (wl_cons wk_sl (wl_cons wk_sl (wl_cons wk_sc wl_nil))))))) wm_nil)) (garmentlaw21_GradeBack_W0 p multiple r0 I0 M0 h0 0 h)
  · have h := h.2 c2
    obtain ⟨exampleHolds2, c3, h⟩ := h
    rw [h]
    exact sr (ids := []) (vs := [boo exampleHolds2]) (mem := []) (ac e_11 (ac (abt (not_t c2)) (ocs c3))) (by kernel_rfl) (by kernel_rfl) (rts_sc rfl)
end Go.Ab
end
