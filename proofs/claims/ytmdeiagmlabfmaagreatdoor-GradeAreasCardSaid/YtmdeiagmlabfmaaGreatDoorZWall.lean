/- A part of the proof. Conditions: those of each theorem. -/
import Derived.Test.YtmdeiagmlabfmaaGreatDoorZTy
import Derived.Test.YtmdeiagmlabfmaaGreatDoorZX
import Derived.Test.YtmdeiagmlabfmaaGreatDoorZWp2
import Derived.Test.YtmdeiagmlabfmaaGreatDoorZWp5
import Derived.Test.YtmdeiagmlabfmaaGreatDoorZWp7
set_option linter.unusedVariables false
set_option linter.unusedSimpArgs false
set_option linter.unusedSectionVars false

section
namespace Go.Ab
open Go.Proofs
set_option maxRecDepth 100000
set_option linter.unusedVariables false
attribute [local irreducible] todoQ
-- garmentref11.meet
abbrev garmentref11_meet_V (a : Spot) (b : Spot) (c : Spot) (d : Spot) (r0 : Bool) : Prop := (∃ (between1 : Bool), Ret Tryz.prog XS 64 [.agg [int a.x, int a.y], .agg [int b.x, int b.y], .agg [int c.x, int c.y]] (boo between1) ∧ ((between1 = true → r0 = true) ∧ (between1 = false → (∃ (between2 : Bool), Ret Tryz.prog XS 64 [.agg [int a.x, int a.y], .agg [int b.x, int b.y], .agg [int d.x, int d.y]] (boo between2) ∧ ((between2 = true → r0 = true) ∧ (between2 = false → (∃ (between3 : Bool), Ret Tryz.prog XS 64 [.agg [int c.x, int c.y], .agg [int d.x, int d.y], .agg [int a.x, int a.y]] (boo between3) ∧ ((between3 = true → r0 = true) ∧ (between3 = false → (∃ (between4 : Bool), Ret Tryz.prog XS 64 [.agg [int c.x, int c.y], .agg [int d.x, int d.y], .agg [int b.x, int b.y]] (boo between4) ∧ ((between4 = true → r0 = true) ∧ (between4 = false → (∃ (cross5 : Int), Ret Tryz.prog XS 71 [.agg [int a.x, int a.y], .agg [int b.x, int b.y], .agg [int c.x, int c.y]] (int cross5) ∧ (∃ (sign6 : Int), Ret Tryz.prog XS 72 [int cross5] (int sign6) ∧ (∃ (cross7 : Int), Ret Tryz.prog XS 71 [.agg [int a.x, int a.y], .agg [int b.x, int b.y], .agg [int d.x, int d.y]] (int cross7) ∧ (∃ (sign8 : Int), Ret Tryz.prog XS 72 [int cross7] (int sign8) ∧ (InR (sign6 * sign8)) ∧ (((sign6 * sign8) < 0 → (∃ (cross9 : Int), Ret Tryz.prog XS 71 [.agg [int c.x, int c.y], .agg [int d.x, int d.y], .agg [int a.x, int a.y]] (int cross9) ∧ (∃ (sign10 : Int), Ret Tryz.prog XS 72 [int cross9] (int sign10) ∧ (∃ (cross11 : Int), Ret Tryz.prog XS 71 [.agg [int c.x, int c.y], .agg [int d.x, int d.y], .agg [int b.x, int b.y]] (int cross11) ∧ (∃ (sign12 : Int), Ret Tryz.prog XS 72 [int cross11] (int sign12) ∧ (InR (sign10 * sign12)) ∧ r0 = (decide ((sign10 * sign12) < 0))))))) ∧ (¬ ((sign6 * sign8) < 0) → r0 = false))))))))))))))))))
theorem garmentref11_meet_W (a : Spot) (b : Spot) (c : Spot) (d : Spot) (r0 : Bool) (h : garmentref11_meet_V a b c d r0) : Ret Tryz.prog XS 65 [.agg [int a.x, int a.y], .agg [int b.x, int b.y], .agg [int c.x, int c.y], .agg [int d.x, int d.y]] (boo r0) := by
  refine fn_rule Tryz.func65 (by kernel_rfl) (by kernel_rfl) (by kernel_rfl) (by kernel_rfl) ?_
  obtain ⟨between1, c1, h⟩ := h
  have e_1 := (ocs c1)
  rcases Bool.eq_false_or_eq_true between1 with c2 | c2
  · have h := h.1 c2
    rw [h]
    exact sr (ids := []) (vs := [boo true]) (mem := []) (ac e_1 (ac (abt c2) (ac (abt c2) (ac (abt c2) (ac (abt c2) (ac (abt c2) (ac abtt (ac abtt (ac abtt (ac abtt (ac abtt (ac abtt (ac abtt (ac abtt (ac abtt (ac abtt abtt)))))))))))))))) (by kernel_rfl) (by kernel_rfl) (rts_sc rfl)
  · have h := h.2 c2
    obtain ⟨between2, c3, h⟩ := h
    have e_2 := (ac (abf c2) (ac (abf c2) (ac (abf c2) (ac (abf c2) (ac (ocs c3) (abf c2))))))
    rcases Bool.eq_false_or_eq_true between2 with c4 | c4
    · have h := h.1 c4
      rw [h]
      exact sr (ids := []) (vs := [boo true]) (mem := []) (ac e_1 (ac e_2 (ac (abt c4) (ac (abt c4) (ac (abt c4) (ac (abt c4) (ac (abt c4) (ac abtt (ac abtt (ac abtt (ac abtt (ac abtt abtt)))))))))))) (by kernel_rfl) (by kernel_rfl) (rts_sc rfl)
    · have h := h.2 c4
      obtain ⟨between3, c5, h⟩ := h
      have e_3 := (ac (abf c4) (ac (abf c4) (ac (abf c4) (ac (abf c4) (ac (ocs c5) (abf c4))))))
      rcases Bool.eq_false_or_eq_true between3 with c6 | c6
      · have h := h.1 c6
        rw [h]
        exact sr (ids := []) (vs := [boo true]) (mem := []) (ac e_1 (ac e_2 (ac e_3 (ac (abt c6) (ac (abt c6) (ac (abt c6) (ac (abt c6) (ac (abt c6) abtt)))))))) (by kernel_rfl) (by kernel_rfl) (rts_sc rfl)
      · have h := h.2 c6
        obtain ⟨between4, c7, h⟩ := h
        have e_4 := (ac (abf c6) (ac (abf c6) (ac (abf c6) (ac (abf c6) (ac (ocs c7) (abf c6))))))
        rcases Bool.eq_false_or_eq_true between4 with c8 | c8
        · have h := h.1 c8
          rw [h]
          exact sr (ids := []) (vs := [boo true]) (mem := []) (ac e_1 (ac e_2 (ac e_3 (ac e_4 (abt c8))))) (by kernel_rfl) (by kernel_rfl) (rts_sc rfl)
        · have h := h.2 c8
          obtain ⟨cross5, c9, sign6, c10, cross7, c11, sign8, c12, c13, h⟩ := h
          have e_5 := (ac (abf c8) (ac (ocs c9) (ac (ocs c10) (ac (ocs c11) (ac (ocs c12) (omul Tryz.prog 3 (wi64 c13)))))))
          by_cases c14 : (sign6 * sign8) < 0
          · have h := h.1 c14
            obtain ⟨cross9, c15, sign10, c16, cross11, c17, sign12, c18, c19, h⟩ := h
            have g_6 := (abt (dec_t c14))
            rw [h]
            exact sr (ids := []) (vs := [boo (decide ((sign10 * sign12) < 0))]) (mem := []) (ac e_1 (ac e_2 (ac e_3 (ac e_4 (ac e_5 (ac g_6 (ac g_6 (ac g_6 (ac g_6 (ac (ocs c15) (ac g_6 (ac (ocs c16) (ac g_6 (ac g_6 (ac g_6 (ac g_6 (ac (ocs c17) (ac g_6 (ac (ocs c18) (ac g_6 (ac (omul Tryz.prog 3 (wi64 c19)) (ac g_6 g_6)))))))))))))))))))))) (by kernel_rfl) (by kernel_rfl) (rts_sc rfl)
          · have h := h.2 c14
            have g_7 := (abf (dec_f c14))
            rw [h]
            exact sr (ids := []) (vs := [boo false]) (mem := []) (ac e_1 (ac e_2 (ac e_3 (ac e_4 (ac e_5 (ac g_7 (ac g_7 (ac g_7 (ac g_7 (ac g_7 (ac g_7 (ac g_7 (ac g_7 (ac g_7 (ac g_7 (ac g_7 (ac g_7 g_7))))))))))))))))) (by kernel_rfl) (by kernel_rfl) (rts_sc rfl)

-- garmentref11.sign
abbrev garmentref11_sign_V (n : Int) (r0 : Int) : Prop := ((n > 0 → r0 = 1) ∧ (¬ (n > 0) → ((n < 0 → r0 = (-1)) ∧ (¬ (n < 0) → r0 = 0))))
theorem garmentref11_sign_W (n : Int) (r0 : Int) (h : garmentref11_sign_V n r0) : Ret Tryz.prog XS 72 [int n] (int r0) := by
  refine fn_rule Tryz.func72 (by kernel_rfl) (by kernel_rfl) (by kernel_rfl) (by kernel_rfl) ?_
  by_cases c1 : n > 0
  · have h := h.1 c1
    rw [h]
    exact sr (ids := []) (vs := [int 1]) (mem := []) (abt (dec_t c1)) (by kernel_rfl) (by kernel_rfl) (rts_sc rfl)
  · have h := h.2 c1
    have e_1 := (abf (dec_f c1))
    by_cases c2 : n < 0
    · have h := h.1 c2
      rw [h]
      exact sr (ids := []) (vs := [int (-1)]) (mem := []) (ac e_1 (abt (dec_t c2))) (by kernel_rfl) (by kernel_rfl) (rts_sc rfl)
    · have h := h.2 c2
      rw [h]
      exact sr (ids := []) (vs := [int 0]) (mem := []) (ac e_1 (abf (dec_f c2))) (by kernel_rfl) (by kernel_rfl) (rts_sc rfl)

-- garmentref21.graded
def garmentref21_graded_S0 (listappend : Edge) (a : Spot) (a2 : Spot) (v9 : Int) (v7 : List Spot) : AS := ⟨[(3, .ptr 0 0 0), (4, .ptr 1 0 0), (5, .ptr 2 0 0), (6, .ptr 3 0 0), (7, .ptr 4 0 0), (8, int (((listappend.line.length : Nat) : Int) - 1)), (9, int v9)], [(0, .box [str listappend.name, .sl 2 (listappend.line.map cSpot)]), (1, .box [int a.x, int a.y]), (2, .box [int a2.x, int a2.y]), (3, .box [str ByteArray.empty, .nil]), (5, .row 2 (v7.map cSpot)), (4, .box [str listappend.name, .own 5 0 v7.length])], 6⟩
abbrev garmentref21_graded_V (listappend : Edge) (a : Spot) (a2 : Spot) (r0 : Edge) (I0 : Int → (List Spot) → Prop) (M0 : Int → (List Spot) → Nat) : Prop := (InR (((listappend.line.length : Nat) : Int) - 1)) ∧ I0 0 ([] : List Spot)
abbrev garmentref21_graded_V0 (listappend : Edge) (a : Spot) (a2 : Spot) (r0 : Edge) (I0 : Int → (List Spot) → Prop) (M0 : Int → (List Spot) → Nat) (v9 : Int) (v7 : List Spot) : Prop := ((v9 ≤ (((listappend.line.length : Nat) : Int) - 1) → (InR ((((listappend.line.length : Nat) : Int) - 1) - v9)) ∧ (InR (((((listappend.line.length : Nat) : Int) - 1) - v9) * a.x)) ∧ (InR (v9 * a2.x)) ∧ (InR ((((((listappend.line.length : Nat) : Int) - 1) - v9) * a.x) + (v9 * a2.x))) ∧ (∃ (round1 : Int), Ret Tryz.prog XS 40 [int ((((((listappend.line.length : Nat) : Int) - 1) - v9) * a.x) + (v9 * a2.x)), int (((listappend.line.length : Nat) : Int) - 1)] (int round1) ∧ (InR (((((listappend.line.length : Nat) : Int) - 1) - v9) * a.y)) ∧ (InR (v9 * a2.y)) ∧ (InR ((((((listappend.line.length : Nat) : Int) - 1) - v9) * a.y) + (v9 * a2.y))) ∧ (∃ (round2 : Int), Ret Tryz.prog XS 40 [int ((((((listappend.line.length : Nat) : Int) - 1) - v9) * a.y) + (v9 * a2.y)), int (((listappend.line.length : Nat) : Int) - 1)] (int round2) ∧ (Idx v9 listappend.line.length) ∧ (InR ((ai listappend.line v9).x + round1)) ∧ (InR ((ai listappend.line v9).y + round2)) ∧ (Cap 16 (v7 ++ ([(⟨((ai listappend.line v9).x + round1), ((ai listappend.line v9).y + round2)⟩ : Spot)] : List Spot)).length) ∧ (InR (v9 + 1)) ∧ I0 (v9 + 1) (v7 ++ ([(⟨((ai listappend.line v9).x + round1), ((ai listappend.line v9).y + round2)⟩ : Spot)] : List Spot)) ∧ M0 (v9 + 1) (v7 ++ ([(⟨((ai listappend.line v9).x + round1), ((ai listappend.line v9).y + round2)⟩ : Spot)] : List Spot)) < M0 v9 v7))) ∧ (¬ (v9 ≤ (((listappend.line.length : Nat) : Int) - 1)) → r0 = (⟨listappend.name, v7⟩ : Edge)))
theorem garmentref21_graded_W0 (listappend : Edge) (a : Spot) (a2 : Spot) (r0 : Edge) (I0 : Int → (List Spot) → Prop) (M0 : Int → (List Spot) → Nat) (h0 : ∀ (v9 : Int) (v7 : List Spot), I0 v9 v7 → garmentref21_graded_V0 listappend a a2 r0 I0 M0 v9 v7) : ∀ (x : Int × (List Spot)), I0 x.1 x.2 → loopQ Tryz.prog XS Tryz.f22 0 (.agg [str r0.name, .fr 2 (r0.line.map cSpot)]) [] (garmentref21_graded_S0 listappend a a2 x.1 x.2) := by
  intro x0 hx0
  refine loop_rule (fun (x : Int × (List Spot)) => I0 x.1 x.2) (fun (x : Int × (List Spot)) => M0 x.1 x.2) (fun (x : Int × (List Spot)) => garmentref21_graded_S0 listappend a a2 x.1 x.2) x0 hx0 ?_
  rintro ⟨v9, v7⟩ hx
  have h := h0 v9 v7 hx
  clear hx hx0 x0
  by_cases c1 : v9 ≤ (((listappend.line.length : Nat) : Int) - 1)
  · have h := h.1 c1
    obtain ⟨c2, c3, c4, c5, round1, c6, c7, c8, c9, round2, c10, c11, c12, c13, c14, c15, h⟩ := h
    have g_1 := (osub Tryz.prog 3 (wi64 c2))
    have g_2 := (oidx cSpot c11)
    exact sb (ts := [3, 4, 5, 6, 7, 8, 9]) (ids := [0, 1, 2, 3, 8, 4]) (d := 0) (s0 := ⟨[(3, .ptr 0 0 0), (4, .ptr 1 0 0), (5, .ptr 2 0 0), (6, .ptr 3 0 0), (7, .ptr 4 0 0), (8, int (((listappend.line.length : Nat) : Int) - 1)), (9, int (v9 + 1))], [(0, .box [str listappend.name, .sl 2 (listappend.line.map cSpot)]), (1, .box [int a.x, int a.y]), (2, .box [int a2.x, int a2.y]), (3, .box [str ByteArray.empty, .nil]), (8, .row 2 ((v7 ++ ([(⟨((ai listappend.line v9).x + round1), ((ai listappend.line v9).y + round2)⟩ : Spot)] : List Spot)).map cSpot)), (4, .box [str listappend.name, .own 8 0 ((v7 ++ ([(⟨((ai listappend.line v9).x + round1), ((ai listappend.line v9).y + round2)⟩ : Spot)] : List Spot)).length)])], 9⟩) (ac (abt (dec_t c1)) (ac g_1 (ac (omul Tryz.prog 3 (wi64 c3)) (ac (omul Tryz.prog 3 (wi64 c4)) (ac (oadd Tryz.prog 3 (wi64 c5)) (ac (ocs c6) (ac g_1 (ac (omul Tryz.prog 3 (wi64 c7)) (ac (omul Tryz.prog 3 (wi64 c8)) (ac (oadd Tryz.prog 3 (wi64 c9)) (ac (ocs c10) (ac g_2 (ac (oadd Tryz.prog 3 (wi64 c12)) (ac g_2 (ac (oadd Tryz.prog 3 (wi64 c13)) (ac (oappo cSpot (n := v7.length) (m := ([(⟨((ai listappend.line v9).x + round1), ((ai listappend.line v9).y + round2)⟩ : Spot)] : List Spot).length) rfl rfl c14) (oadd Tryz.prog 3 (wi64 c15)))))))))))))))))) (by kernel_rfl) (by kernel_rfl) rfl ((v9 + 1), (v7 ++ ([(⟨((ai listappend.line v9).x + round1), ((ai listappend.line v9).y + round2)⟩ : Spot)] : List Spot))) h.1 h.2 (Weak.anew [(0, some 0), (1, some 1), (2, some 2), (3, some 3), (5, some 8), (4, some 4)] (by rfl) (wt_cons rfl (wk_ptr rfl) (wt_cons rfl (wk_ptr rfl) (wt_cons rfl (wk_ptr rfl) (wt_cons rfl (wk_ptr rfl) (wt_cons rfl (wk_ptr rfl) (wt_cons rfl wk_sc (wt_cons rfl wk_sc wt_nil))))))) (wm_box rfl rfl (wl_cons wk_sc (wl_cons wk_sl wl_nil)) (wm_box rfl rfl (wl_cons wk_sc (wl_cons wk_sc wl_nil)) (wm_box rfl rfl (wl_cons wk_sc (wl_cons wk_sc wl_nil)) (wm_box rfl rfl (wl_cons wk_sc (wl_cons wk_nil wl_nil)) (wm_row rfl rfl (wm_box rfl rfl (wl_cons wk_sc (wl_cons (wk_own rfl rfl) wl_nil)) wm_nil)))))))
  · have h := h.2 c1
    rw [h]
    exact sr (ids := [5]) (vs := [.agg [str listappend.name, .own 5 0 v7.length]]) (mem := [(5, .row 2 (v7.map cSpot))]) (abf (dec_f c1)) (by kernel_rfl) (by kernel_rfl) (rts_agg (rcs_sc (rcs_own rfl rfl rfl (rcs_nil rfl))))
theorem garmentref21_graded_W (listappend : Edge) (a : Spot) (a2 : Spot) (r0 : Edge) (I0 : Int → (List Spot) → Prop) (M0 : Int → (List Spot) → Nat) (h : garmentref21_graded_V listappend a a2 r0 I0 M0) (h0 : ∀ (v9 : Int) (v7 : List Spot), I0 v9 v7 → garmentref21_graded_V0 listappend a a2 r0 I0 M0 v9 v7) : Ret Tryz.prog XS 22 [.agg [str listappend.name, .sl 2 (listappend.line.map cSpot)], .agg [int a.x, int a.y], .agg [int a2.x, int a2.y]] (.agg [str r0.name, .fr 2 (r0.line.map cSpot)]) := by
  refine fn_rule Tryz.func22 (by kernel_rfl) (by kernel_rfl) (by kernel_rfl) (by kernel_rfl) ?_
  obtain ⟨c1, h⟩ := h
  exact sl (ts := [3, 4, 5, 6, 7, 8, 9]) (ids := [0, 1, 2, 3, 4]) (d := 0) (s0 := ⟨[(3, .ptr 0 0 0), (4, .ptr 1 0 0), (5, .ptr 2 0 0), (6, .ptr 3 0 0), (7, .ptr 4 0 0), (8, int (((listappend.line.length : Nat) : Int) - 1)), (9, int 0)], [(0, .box [str listappend.name, .sl 2 (listappend.line.map cSpot)]), (1, .box [int a.x, int a.y]), (2, .box [int a2.x, int a2.y]), (3, .box [str ByteArray.empty, .nil]), (4, .box [str listappend.name, .nil])], 5⟩) (ac (olen cSpot Tryz.prog 24 2 listappend.line (by kernel_rfl)) (osub Tryz.prog 3 (wi64 c1))) (by kernel_rfl) (by kernel_rfl) (Weak.anew [(0, some 0), (1, some 1), (2, some 2), (3, some 3), (5, none), (4, some 4)] (by rfl) (wt_cons rfl (wk_ptr rfl) (wt_cons rfl (wk_ptr rfl) (wt_cons rfl (wk_ptr rfl) (wt_cons rfl (wk_ptr rfl) (wt_cons rfl (wk_ptr rfl) (wt_cons rfl wk_sc (wt_cons rfl wk_sc wt_nil))))))) (wm_box rfl rfl (wl_cons wk_sc (wl_cons wk_sl wl_nil)) (wm_box rfl rfl (wl_cons wk_sc (wl_cons wk_sc wl_nil)) (wm_box rfl rfl (wl_cons wk_sc (wl_cons wk_sc wl_nil)) (wm_box rfl rfl (wl_cons wk_sc (wl_cons wk_nil wl_nil)) (wm_none rfl (wm_box rfl rfl (wl_cons wk_sc (wl_cons (wk_nilown rfl) wl_nil)) wm_nil))))))) (garmentref21_graded_W0 listappend a a2 r0 I0 M0 h0 (0, ([] : List Spot)) h)

-- garmentref21.round
abbrev garmentref21_round_V (a : Int) (n : Int) (r0 : Int) : Prop := ((a < 0 → (InR ((-2) * a)) ∧ (InR (((-2) * a) + n)) ∧ (InR (2 * n)) ∧ ((2 * n) ≠ 0) ∧ (InR ((((-2) * a) + n).tdiv (2 * n))) ∧ (InR (-((((-2) * a) + n).tdiv (2 * n)))) ∧ r0 = (-((((-2) * a) + n).tdiv (2 * n)))) ∧ (¬ (a < 0) → (InR (2 * a)) ∧ (InR ((2 * a) + n)) ∧ (InR (2 * n)) ∧ ((2 * n) ≠ 0) ∧ (InR (((2 * a) + n).tdiv (2 * n))) ∧ r0 = (((2 * a) + n).tdiv (2 * n))))
theorem garmentref21_round_W (a : Int) (n : Int) (r0 : Int) (h : garmentref21_round_V a n r0) : Ret Tryz.prog XS 40 [int a, int n] (int r0) := by
  refine fn_rule Tryz.func40 (by kernel_rfl) (by kernel_rfl) (by kernel_rfl) (by kernel_rfl) ?_
  by_cases c1 : a < 0
  · have h := h.1 c1
    obtain ⟨c2, c3, c4, c5, c6, c7, h⟩ := h
    have g_1 := (omul Tryz.prog 3 (wi64 c2))
    have g_2 := (oadd Tryz.prog 3 (wi64 c3))
    have g_3 := (omul Tryz.prog 3 (wi64 c4))
    have g_4 := (oquo Tryz.prog 3 c5 (wi64 c6))
    rw [h]
    exact sr (ids := []) (vs := [int (-((((-2) * a) + n).tdiv (2 * n)))]) (mem := []) (ac (abt (dec_t c1)) (ac g_1 (ac g_2 (ac g_3 (ac g_4 (oneg (wi64 c7))))))) (by kernel_rfl) (by kernel_rfl) (rts_sc rfl)
  · have h := h.2 c1
    obtain ⟨c2, c3, c4, c5, c6, h⟩ := h
    have g_5 := (omul Tryz.prog 3 (wi64 c2))
    have g_6 := (oadd Tryz.prog 3 (wi64 c3))
    have g_7 := (omul Tryz.prog 3 (wi64 c4))
    have g_8 := (oquo Tryz.prog 3 c5 (wi64 c6))
    rw [h]
    exact sr (ids := []) (vs := [int (((2 * a) + n).tdiv (2 * n))]) (mem := []) (ac (abf (dec_f c1)) (ac g_5 (ac g_6 (ac g_7 g_8)))) (by kernel_rfl) (by kernel_rfl) (rts_sc rfl)

-- garmentref21.SameEdges
-- garmentref11.Same
-- grade.Areas
def grade_Areas_S0 (p : Piece) (multiples : List Int) (out6 : List Int) (v15 : Int) : AS := ⟨[(2, .ptr 0 0 0), (6, .own 1 0 out6.length), (13, .sl 1 (multiples.map cI)), (14, int ((multiples.length : Nat) : Int)), (15, int v15)], [(1, .row 1 (out6.map cI)), (0, .box [str p.name, .sl 2 (p.edges.map cEdge), int p.grain, .sl 2 (p.notches.map cNotch), .sl 2 (p.corners.map cSpot), .sl 1 (p.widths.map cI), boo p.match_])], 2⟩
abbrev grade_Areas_V (p : Piece) (multiples : List Int) (r0 : List Int) (r1 : Int) (I0 : (List Int) → Int → Prop) (M0 : (List Int) → Int → Nat) : Prop := I0 ([] : List Int) 0
abbrev grade_Areas_V0 (p : Piece) (multiples : List Int) (r0 : List Int) (r1 : Int) (I0 : (List Int) → Int → Prop) (M0 : (List Int) → Int → Nat) (out6 : List Int) (v15 : Int) : Prop := ((v15 < ((multiples.length : Nat) : Int) → (Idx v15 multiples.length) ∧ (∃ (graded1a : List Edge) (graded1b : Int), Ret Tryz.prog XS 7 [.agg [str p.name, .sl 2 (p.edges.map cEdge), int p.grain, .sl 2 (p.notches.map cNotch), .sl 2 (p.corners.map cSpot), .sl 1 (p.widths.map cI), boo p.match_], int (ai multiples v15)] (.tup [.fr 2 (graded1a.map cEdge), int graded1b]) ∧ ((graded1b = 0 → (∃ (polygon2a : List Spot) (polygon2b : Int), Ret Tryz.prog XS 24 [.sl 2 (graded1a.map cEdge)] (.tup [.fr 2 (polygon2a.map cSpot), int polygon2b]) ∧ ((polygon2b = 0 → (∃ (area23 : Int), Ret Tryz.prog XS 25 [.sl 2 (polygon2a.map cSpot)] (int area23) ∧ (InR (-area23)) ∧ (Cap 8 (out6 ++ ([(max area23 (-area23))] : List Int)).length) ∧ (InR (v15 + 1)) ∧ I0 (out6 ++ ([(max area23 (-area23))] : List Int)) (v15 + 1) ∧ M0 (out6 ++ ([(max area23 (-area23))] : List Int)) (v15 + 1) < M0 out6 v15)) ∧ (¬ (polygon2b = 0) → r0 = ([] : List Int) ∧ r1 = polygon2b)))) ∧ (¬ (graded1b = 0) → r0 = ([] : List Int) ∧ r1 = graded1b)))) ∧ (¬ (v15 < ((multiples.length : Nat) : Int)) → r0 = out6 ∧ r1 = 0))
theorem grade_Areas_W0 (p : Piece) (multiples : List Int) (r0 : List Int) (r1 : Int) (I0 : (List Int) → Int → Prop) (M0 : (List Int) → Int → Nat) (h0 : ∀ (out6 : List Int) (v15 : Int), I0 out6 v15 → grade_Areas_V0 p multiples r0 r1 I0 M0 out6 v15) : ∀ (x : (List Int) × Int), I0 x.1 x.2 → loopQ Tryz.prog XS Tryz.f10 0 (.tup [.fr 1 (r0.map cI), int r1]) [] (grade_Areas_S0 p multiples x.1 x.2) := by
  intro x0 hx0
  refine loop_rule (fun (x : (List Int) × Int) => I0 x.1 x.2) (fun (x : (List Int) × Int) => M0 x.1 x.2) (fun (x : (List Int) × Int) => grade_Areas_S0 p multiples x.1 x.2) x0 hx0 ?_
  rintro ⟨out6, v15⟩ hx
  have h := h0 out6 v15 hx
  clear hx hx0 x0
  by_cases c1 : v15 < ((multiples.length : Nat) : Int)
  · have h := h.1 c1
    obtain ⟨c2, graded1a, graded1b, c3, h⟩ := h
    have e_1 := (ac (abt (dec_t c1)) (ac (oidx cI c2) (ocs c3)))
    by_cases c4 : graded1b = 0
    · have h := h.1 c4
      obtain ⟨polygon2a, polygon2b, c5, h⟩ := h
      have e_2 := (ac (abf (bne_f c4)) (ocl [2] [(2, .row 2 (graded1a.map cEdge))] [.own 2 0 ((graded1a.map cEdge).length)] (as_cons (at_row (List.length_map ..) rfl) as_nil) c5))
      by_cases c6 : polygon2b = 0
      · have h := h.1 c6
        obtain ⟨area23, c7, c8, c9, c10, h⟩ := h
        exact sb (ts := [2, 6, 13, 14, 15]) (ids := [5, 0]) (d := 0) (s0 := ⟨[(2, .ptr 0 0 0), (6, .own 5 0 ((out6 ++ ([(max area23 (-area23))] : List Int)).length)), (13, .sl 1 (multiples.map cI)), (14, int ((multiples.length : Nat) : Int)), (15, int (v15 + 1))], [(5, .row 1 ((out6 ++ ([(max area23 (-area23))] : List Int)).map cI)), (0, .box [str p.name, .sl 2 (p.edges.map cEdge), int p.grain, .sl 2 (p.notches.map cNotch), .sl 2 (p.corners.map cSpot), .sl 1 (p.widths.map cI), boo p.match_])], 6⟩) (ac e_1 (ac e_2 (ac (abf (bne_f c6)) (ac (ocl [3] [(3, .row 2 (polygon2a.map cSpot))] [.own 3 0 ((polygon2a.map cSpot).length)] (as_cons (at_row (List.length_map ..) rfl) as_nil) c7) (ac (oneg (wi64 c8)) (ac (omax .i64 area23 (-area23)) (ac (oappo cI (n := out6.length) (m := ([(max area23 (-area23))] : List Int).length) rfl rfl c9) (oadd Tryz.prog 3 (wi64 c10))))))))) (by kernel_rfl) (by kernel_rfl) rfl ((out6 ++ ([(max area23 (-area23))] : List Int)), (v15 + 1)) h.1 h.2 (Weak.anew [(1, some 5), (0, some 0)] (by rfl) (wt_cons rfl (wk_ptr rfl) (wt_cons rfl (wk_own rfl rfl) (wt_cons rfl wk_sl (wt_cons rfl wk_sc (wt_cons rfl wk_sc wt_nil))))) (wm_row rfl rfl (wm_box rfl rfl (wl_cons wk_sc (wl_cons wk_sl (wl_cons wk_sc (wl_cons wk_sl (wl_cons wk_sl (wl_cons wk_sl (wl_cons wk_sc wl_nil))))))) wm_nil)))
      · have h := h.2 c6
        rw [h.1, h.2]
        exact sr (ids := []) (vs := [.nil, int polygon2b]) (mem := []) (ac e_1 (ac e_2 (abt (bne_t c6)))) (by kernel_rfl) (by kernel_rfl) (rts_nilfr (rts_sc rfl))
    · have h := h.2 c4
      rw [h.1, h.2]
      exact sr (ids := []) (vs := [.nil, int graded1b]) (mem := []) (ac e_1 (abt (bne_t c4))) (by kernel_rfl) (by kernel_rfl) (rts_nilfr (rts_sc rfl))
  · have h := h.2 c1
    rw [h.1, h.2]
    exact sr (ids := [1]) (vs := [.own 1 0 out6.length, int 0]) (mem := [(1, .row 1 (out6.map cI))]) (abf (dec_f c1)) (by kernel_rfl) (by kernel_rfl) (rts_own rfl rfl rfl (rts_sc rfl))
theorem grade_Areas_W (p : Piece) (multiples : List Int) (r0 : List Int) (r1 : Int) (I0 : (List Int) → Int → Prop) (M0 : (List Int) → Int → Nat) (h : grade_Areas_V p multiples r0 r1 I0 M0) (h0 : ∀ (out6 : List Int) (v15 : Int), I0 out6 v15 → grade_Areas_V0 p multiples r0 r1 I0 M0 out6 v15) : Ret Tryz.prog XS 10 [.agg [str p.name, .sl 2 (p.edges.map cEdge), int p.grain, .sl 2 (p.notches.map cNotch), .sl 2 (p.corners.map cSpot), .sl 1 (p.widths.map cI), boo p.match_], .sl 1 (multiples.map cI)] (.tup [.fr 1 (r0.map cI), int r1]) := by
  refine fn_rule Tryz.func10 (by kernel_rfl) (by kernel_rfl) (by kernel_rfl) (by kernel_rfl) ?_
  exact sl (ts := [2, 6, 13, 14, 15]) (ids := [0]) (d := 0) (s0 := ⟨[(2, .ptr 0 0 0), (6, .nil), (13, .sl 1 (multiples.map cI)), (14, int ((multiples.length : Nat) : Int)), (15, int 0)], [(0, .box [str p.name, .sl 2 (p.edges.map cEdge), int p.grain, .sl 2 (p.notches.map cNotch), .sl 2 (p.corners.map cSpot), .sl 1 (p.widths.map cI), boo p.match_])], 1⟩) (olen cI Tryz.prog 25 1 multiples (by kernel_rfl)) (by kernel_rfl) (by kernel_rfl) (Weak.anew [(1, none), (0, some 0)] (by rfl) (wt_cons rfl (wk_ptr rfl) (wt_cons rfl (wk_nilown rfl) (wt_cons rfl wk_sl (wt_cons rfl wk_sc (wt_cons rfl wk_sc wt_nil))))) (wm_none rfl (wm_box rfl rfl (wl_cons wk_sc (wl_cons wk_sl (wl_cons wk_sc (wl_cons wk_sl (wl_cons wk_sl (wl_cons wk_sl (wl_cons wk_sc wl_nil))))))) wm_nil))) (grade_Areas_W0 p multiples r0 r1 I0 M0 h0 (([] : List Int), 0) h)

end Go.Ab
end

section
namespace Go.Ab
open Go.Proofs
set_option maxRecDepth 100000
set_option linter.unusedVariables false
attribute [local irreducible] todoQ
-- outline.Polygon
abbrev outline_Polygon_V (l : List Edge) (r0 : List Spot) (r1 : Int) : Prop := (∃ (check1 : Int), Ret Tryz.prog XS 17 [.sl 2 (l.map cEdge)] (int check1) ∧ ((check1 = 0 → (∃ (vertices2 : List Spot), Ret Tryz.prog XS 33 [.sl 2 (l.map cEdge)] (.fr 2 (vertices2.map cSpot)) ∧ r0 = vertices2 ∧ r1 = 0)) ∧ (¬ (check1 = 0) → r0 = ([] : List Spot) ∧ r1 = check1)))
theorem outline_Polygon_W (l : List Edge) (r0 : List Spot) (r1 : Int) (h : outline_Polygon_V l r0 r1) : Ret Tryz.prog XS 24 [.sl 2 (l.map cEdge)] (.tup [.fr 2 (r0.map cSpot), int r1]) := by
  refine fn_rule Tryz.func24 (by kernel_rfl) (by kernel_rfl) (by kernel_rfl) (by kernel_rfl) ?_
  obtain ⟨check1, c1, h⟩ := h
  have e_1 := (ocs c1)
  by_cases c2 : check1 = 0
  · have h := h.1 c2
    obtain ⟨vertices2, c3, h⟩ := h
    rw [h.1, h.2]
    exact sr (ids := [0]) (vs := [.own 0 0 ((vertices2.map cSpot).length), int 0]) (mem := [(0, .row 2 (vertices2.map cSpot))]) (ac e_1 (ac (abf (bne_f c2)) (ocs c3))) (by kernel_rfl) (by kernel_rfl) (rts_own (List.length_map ..) rfl rfl (rts_sc rfl))
  · have h := h.2 c2
    rw [h.1, h.2]
    exact sr (ids := []) (vs := [.nil, int check1]) (mem := []) (ac e_1 (abt (bne_t c2))) (by kernel_rfl) (by kernel_rfl) (rts_nilfr (rts_sc rfl))

-- polygon.Area2
abbrev polygon_Area2_V (p : List Spot) (r0 : Int) : Prop := (∃ (check1 : Int), Ret Tryz.prog XS 32 [.sl 2 (p.map cSpot)] (int check1) ∧ ((check1 = 0 → (∃ (area2 : Int), Ret Tryz.prog XS 41 [.sl 2 (p.map cSpot)] (int area2) ∧ r0 = area2)) ∧ (¬ (check1 = 0) → r0 = 0)))
theorem polygon_Area2_W (p : List Spot) (r0 : Int) (h : polygon_Area2_V p r0) : Ret Tryz.prog XS 25 [.sl 2 (p.map cSpot)] (int r0) := by
  refine fn_rule Tryz.func25 (by kernel_rfl) (by kernel_rfl) (by kernel_rfl) (by kernel_rfl) ?_
  obtain ⟨check1, c1, h⟩ := h
  have e_1 := (ocs c1)
  by_cases c2 : check1 = 0
  · have h := h.1 c2
    obtain ⟨area2, c3, h⟩ := h
    rw [h]
    exact sr (ids := []) (vs := [int area2]) (mem := []) (ac e_1 (ac (abf (bne_f c2)) (ocs c3))) (by kernel_rfl) (by kernel_rfl) (rts_sc rfl)
  · have h := h.2 c2
    rw [h]
    exact sr (ids := []) (vs := [int 0]) (mem := []) (ac e_1 (abt (bne_t c2))) (by kernel_rfl) (by kernel_rfl) (rts_sc rfl)

-- polygon.area
def polygon_area_S0 (p : List Spot) (sides1 : List PolygonSide) (sum3 : Int) (v9 : Int) : AS := ⟨[(3, int sum3), (7, .own 0 0 sides1.length), (8, int ((sides1.length : Nat) : Int)), (9, int v9)], [(0, .row 4 (sides1.map cPolygonSide))], 1⟩
abbrev polygon_area_V (p : List Spot) (r0 : Int) (I0 : (List PolygonSide) → Int → Int → Prop) (M0 : (List PolygonSide) → Int → Int → Nat) : Prop := (∃ (sides1 : List PolygonSide), Ret Tryz.prog XS 56 [.sl 2 (p.map cSpot)] (.fr 4 (sides1.map cPolygonSide)) ∧ I0 sides1 0 0)
abbrev polygon_area_V0 (p : List Spot) (r0 : Int) (I0 : (List PolygonSide) → Int → Int → Prop) (M0 : (List PolygonSide) → Int → Int → Nat) (sides1 : List PolygonSide) (sum3 : Int) (v9 : Int) : Prop := ((v9 < ((sides1.length : Nat) : Int) → (Idx v9 sides1.length) ∧ (InR ((ai sides1 v9).b.x - (ai sides1 v9).a.x)) ∧ (InR ((ai sides1 v9).a.y + (ai sides1 v9).b.y)) ∧ (InR (((ai sides1 v9).b.x - (ai sides1 v9).a.x) * ((ai sides1 v9).a.y + (ai sides1 v9).b.y))) ∧ (InR (sum3 + (((ai sides1 v9).b.x - (ai sides1 v9).a.x) * ((ai sides1 v9).a.y + (ai sides1 v9).b.y)))) ∧ (InR (v9 + 1)) ∧ I0 sides1 (sum3 + (((ai sides1 v9).b.x - (ai sides1 v9).a.x) * ((ai sides1 v9).a.y + (ai sides1 v9).b.y))) (v9 + 1) ∧ M0 sides1 (sum3 + (((ai sides1 v9).b.x - (ai sides1 v9).a.x) * ((ai sides1 v9).a.y + (ai sides1 v9).b.y))) (v9 + 1) < M0 sides1 sum3 v9) ∧ (¬ (v9 < ((sides1.length : Nat) : Int)) → (InR (-sum3)) ∧ r0 = (-sum3)))
theorem polygon_area_W0 (p : List Spot) (r0 : Int) (I0 : (List PolygonSide) → Int → Int → Prop) (M0 : (List PolygonSide) → Int → Int → Nat) (h0 : ∀ (sides1 : List PolygonSide) (sum3 : Int) (v9 : Int), I0 sides1 sum3 v9 → polygon_area_V0 p r0 I0 M0 sides1 sum3 v9) (sides1 : List PolygonSide) : ∀ (x : Int × Int), I0 sides1 x.1 x.2 → loopQ Tryz.prog XS Tryz.f41 0 (int r0) [] (polygon_area_S0 p sides1 x.1 x.2) := by
  intro x0 hx0
  refine loop_rule (fun (x : Int × Int) => I0 sides1 x.1 x.2) (fun (x : Int × Int) => M0 sides1 x.1 x.2) (fun (x : Int × Int) => polygon_area_S0 p sides1 x.1 x.2) x0 hx0 ?_
  rintro ⟨sum3, v9⟩ hx
  have h := h0 sides1 sum3 v9 hx
  clear hx hx0 x0
  by_cases c1 : v9 < ((sides1.length : Nat) : Int)
  · have h := h.1 c1
    obtain ⟨c2, c3, c4, c5, c6, c7, h⟩ := h
    exact sb (ts := [3, 7, 8, 9]) (ids := [0]) (d := 0) (s0 := ⟨[(3, int (sum3 + (((ai sides1 v9).b.x - (ai sides1 v9).a.x) * ((ai sides1 v9).a.y + (ai sides1 v9).b.y)))), (7, .own 0 0 sides1.length), (8, int ((sides1.length : Nat) : Int)), (9, int (v9 + 1))], [(0, .row 4 (sides1.map cPolygonSide))], 2⟩) (ac (abt (dec_t c1)) (ac (oown cPolygonSide (n := sides1.length) rfl c2) (ac (orow cPolygonSide c2) (ac (osub Tryz.prog 3 (wi64 c3)) (ac (oadd Tryz.prog 3 (wi64 c4)) (ac (omul Tryz.prog 3 (wi64 c5)) (ac (oadd Tryz.prog 3 (wi64 c6)) (oadd Tryz.prog 3 (wi64 c7))))))))) (by kernel_rfl) (by kernel_rfl) rfl ((sum3 + (((ai sides1 v9).b.x - (ai sides1 v9).a.x) * ((ai sides1 v9).a.y + (ai sides1 v9).b.y))), (v9 + 1)) h.1 h.2 (Weak.anew [(0, some 0)] (by rfl) (wt_cons rfl wk_sc (wt_cons rfl (wk_own rfl rfl) (wt_cons rfl wk_sc (wt_cons rfl wk_sc wt_nil)))) (wm_row rfl rfl wm_nil))
  · have h := h.2 c1
    obtain ⟨c2, h⟩ := h
    rw [h]
    exact sr (ids := []) (vs := [int (-sum3)]) (mem := []) (ac (abf (dec_f c1)) (oneg (wi64 c2))) (by kernel_rfl) (by kernel_rfl) (rts_sc rfl)
theorem polygon_area_W (p : List Spot) (r0 : Int) (I0 : (List PolygonSide) → Int → Int → Prop) (M0 : (List PolygonSide) → Int → Int → Nat) (h : polygon_area_V p r0 I0 M0) (h0 : ∀ (sides1 : List PolygonSide) (sum3 : Int) (v9 : Int), I0 sides1 sum3 v9 → polygon_area_V0 p r0 I0 M0 sides1 sum3 v9) : Ret Tryz.prog XS 41 [.sl 2 (p.map cSpot)] (int r0) := by
  refine fn_rule Tryz.func41 (by kernel_rfl) (by kernel_rfl) (by kernel_rfl) (by kernel_rfl) ?_
  obtain ⟨sides1, c1, h⟩ := h
  exact sl (ts := [3, 7, 8, 9]) (ids := [0]) (d := 0) (s0 := ⟨[(3, int 0), (7, .own 0 0 ((sides1.map cPolygonSide).length)), (8, int ((sides1.length : Nat) : Int)), (9, int 0)], [(0, .row 4 (sides1.map cPolygonSide))], 1⟩) (ac (ocs c1) (oleno Tryz.prog 78 0 0 ((sides1.map cPolygonSide).length) sides1.length (List.length_map ..) (by kernel_rfl))) (by kernel_rfl) (by kernel_rfl) (Weak.anew [(0, some 0)] (by rfl) (wt_cons rfl wk_sc (wt_cons rfl (wk_own rfl (List.length_map ..)) (wt_cons rfl wk_sc (wt_cons rfl wk_sc wt_nil)))) (wm_row rfl rfl wm_nil)) (polygon_area_W0 p r0 I0 M0 h0 sides1 (0, 0) h)

-- garmentref21.Areas
def garmentref21_Areas_S0 (p : Piece) (multiples : List Int) (out6 : List Int) (i7 : Int) : AS := ⟨[(1, .sl 1 (multiples.map cI)), (2, .ptr 0 0 0), (6, .own 1 0 out6.length), (7, int i7)], [(1, .row 1 (out6.map cI)), (0, .box [str p.name, .sl 2 (p.edges.map cEdge), int p.grain, .sl 2 (p.notches.map cNotch), .sl 2 (p.corners.map cSpot), .sl 1 (p.widths.map cI), boo p.match_])], 2⟩
abbrev garmentref21_Areas_V (p : Piece) (multiples : List Int) (r0 : List Int) (r1 : Int) (I0 : (List Int) → Int → Prop) (M0 : (List Int) → Int → Nat) : Prop := I0 ([] : List Int) 0
abbrev garmentref21_Areas_V0 (p : Piece) (multiples : List Int) (r0 : List Int) (r1 : Int) (I0 : (List Int) → Int → Prop) (M0 : (List Int) → Int → Nat) (out6 : List Int) (i7 : Int) : Prop := ((i7 < ((multiples.length : Nat) : Int) → (Idx i7 multiples.length) ∧ (∃ (graded1a : List Edge) (graded1b : Int), Ret Tryz.prog XS 8 [.agg [str p.name, .sl 2 (p.edges.map cEdge), int p.grain, .sl 2 (p.notches.map cNotch), .sl 2 (p.corners.map cSpot), .sl 1 (p.widths.map cI), boo p.match_], int (ai multiples i7)] (.tup [.fr 2 (graded1a.map cEdge), int graded1b]) ∧ ((graded1b = 0 → (∃ (polygon2a : List Spot) (polygon2b : Int), Ret Tryz.prog XS 26 [.sl 2 (graded1a.map cEdge)] (.tup [.fr 2 (polygon2a.map cSpot), int polygon2b]) ∧ (∃ (area23 : Int), Ret Tryz.prog XS 27 [.sl 2 (polygon2a.map cSpot)] (int area23) ∧ (InR (-area23)) ∧ (Cap 8 (out6 ++ ([(max area23 (-area23))] : List Int)).length) ∧ (InR (i7 + 1)) ∧ I0 (out6 ++ ([(max area23 (-area23))] : List Int)) (i7 + 1) ∧ M0 (out6 ++ ([(max area23 (-area23))] : List Int)) (i7 + 1) < M0 out6 i7))) ∧ (¬ (graded1b = 0) → r0 = ([] : List Int) ∧ r1 = graded1b)))) ∧ (¬ (i7 < ((multiples.length : Nat) : Int)) → r0 = out6 ∧ r1 = 0))
theorem garmentref21_Areas_W0 (p : Piece) (multiples : List Int) (r0 : List Int) (r1 : Int) (I0 : (List Int) → Int → Prop) (M0 : (List Int) → Int → Nat) (h0 : ∀ (out6 : List Int) (i7 : Int), I0 out6 i7 → garmentref21_Areas_V0 p multiples r0 r1 I0 M0 out6 i7) : ∀ (x : (List Int) × Int), I0 x.1 x.2 → loopQ Tryz.prog XS Tryz.f11 0 (.tup [.fr 1 (r0.map cI), int r1]) [] (garmentref21_Areas_S0 p multiples x.1 x.2) := by
  intro x0 hx0
  refine loop_rule (fun (x : (List Int) × Int) => I0 x.1 x.2) (fun (x : (List Int) × Int) => M0 x.1 x.2) (fun (x : (List Int) × Int) => garmentref21_Areas_S0 p multiples x.1 x.2) x0 hx0 ?_
  rintro ⟨out6, i7⟩ hx
  have h := h0 out6 i7 hx
  clear hx hx0 x0
  have e_1 := (olen cI Tryz.prog 25 1 multiples (by kernel_rfl))
  by_cases c1 : i7 < ((multiples.length : Nat) : Int)
  · have h := h.1 c1
    obtain ⟨c2, graded1a, graded1b, c3, h⟩ := h
    have e_2 := (ac (abt (dec_t c1)) (ac (oidx cI c2) (ocs c3)))
    by_cases c4 : graded1b = 0
    · have h := h.1 c4
      obtain ⟨polygon2a, polygon2b, c5, area23, c6, c7, c8, c9, h⟩ := h
      exact sb (ts := [1, 2, 6, 7]) (ids := [5, 0]) (d := 0) (s0 := ⟨[(1, .sl 1 (multiples.map cI)), (2, .ptr 0 0 0), (6, .own 5 0 ((out6 ++ ([(max area23 (-area23))] : List Int)).length)), (7, int (i7 + 1))], [(5, .row 1 ((out6 ++ ([(max area23 (-area23))] : List Int)).map cI)), (0, .box [str p.name, .sl 2 (p.edges.map cEdge), int p.grain, .sl 2 (p.notches.map cNotch), .sl 2 (p.corners.map cSpot), .sl 1 (p.widths.map cI), boo p.match_])], 6⟩) (ac e_1 (ac e_2 (ac (abf (bne_f c4)) (ac (ocl [2] [(2, .row 2 (graded1a.map cEdge))] [.own 2 0 ((graded1a.map cEdge).length)] (as_cons (at_row (List.length_map ..) rfl) as_nil) c5) (ac (ocl [3] [(3, .row 2 (polygon2a.map cSpot))] [.own 3 0 ((polygon2a.map cSpot).length)] (as_cons (at_row (List.length_map ..) rfl) as_nil) c6) (ac (oneg (wi64 c7)) (ac (omax .i64 area23 (-area23)) (ac (oappo cI (n := out6.length) (m := ([(max area23 (-area23))] : List Int).length) rfl rfl c8) (oadd Tryz.prog 3 (wi64 c9)))))))))) (by kernel_rfl) (by kernel_rfl) rfl ((out6 ++ ([(max area23 (-area23))] : List Int)), (i7 + 1)) h.1 h.2 (Weak.anew [(1, some 5), (0, some 0)] (by rfl) (wt_cons rfl wk_sl (wt_cons rfl (wk_ptr rfl) (wt_cons rfl (wk_own rfl rfl) (wt_cons rfl wk_sc wt_nil)))) (wm_row rfl rfl (wm_box rfl rfl (wl_cons wk_sc (wl_cons wk_sl (wl_cons wk_sc (wl_cons wk_sl (wl_cons wk_sl (wl_cons wk_sl (wl_cons wk_sc wl_nil))))))) wm_nil)))
    · have h := h.2 c4
      rw [h.1, h.2]
      exact sr (ids := []) (vs := [.nil, int graded1b]) (mem := []) (ac e_1 (ac e_2 (abt (bne_t c4)))) (by kernel_rfl) (by kernel_rfl) (rts_nilfr (rts_sc rfl))
  · have h := h.2 c1
    rw [h.1, h.2]
    exact sr (ids := [1]) (vs := [.own 1 0 out6.length, int 0]) (mem := [(1, .row 1 (out6.map cI))]) (ac e_1 (abf (dec_f c1))) (by kernel_rfl) (by kernel_rfl) (rts_own rfl rfl rfl (rts_sc rfl))
theorem garmentref21_Areas_W (p : Piece) (multiples : List Int) (r0 : List Int) (r1 : Int) (I0 : (List Int) → Int → Prop) (M0 : (List Int) → Int → Nat) (h : garmentref21_Areas_V p multiples r0 r1 I0 M0) (h0 : ∀ (out6 : List Int) (i7 : Int), I0 out6 i7 → garmentref21_Areas_V0 p multiples r0 r1 I0 M0 out6 i7) : Ret Tryz.prog XS 11 [.agg [str p.name, .sl 2 (p.edges.map cEdge), int p.grain, .sl 2 (p.notches.map cNotch), .sl 2 (p.corners.map cSpot), .sl 1 (p.widths.map cI), boo p.match_], .sl 1 (multiples.map cI)] (.tup [.fr 1 (r0.map cI), int r1]) := by
  refine fn_rule Tryz.func11 (by kernel_rfl) (by kernel_rfl) (by kernel_rfl) (by kernel_rfl) ?_
  exact sl (ts := [1, 2, 6, 7]) (ids := [0]) (d := 0) (s0 := ⟨[(1, .sl 1 (multiples.map cI)), (2, .ptr 0 0 0), (6, .nil), (7, int 0)], [(0, .box [str p.name, .sl 2 (p.edges.map cEdge), int p.grain, .sl 2 (p.notches.map cNotch), .sl 2 (p.corners.map cSpot), .sl 1 (p.widths.map cI), boo p.match_])], 1⟩) az (by kernel_rfl) (by kernel_rfl) (Weak.anew [(1, none), (0, some 0)] (by rfl) (wt_cons rfl wk_sl (wt_cons rfl (wk_ptr rfl) (wt_cons rfl (wk_nilown rfl) (wt_cons rfl wk_sc wt_nil)))) (wm_none rfl (wm_box rfl rfl (wl_cons wk_sc (wl_cons wk_sl (wl_cons wk_sc (wl_cons wk_sl (wl_cons wk_sl (wl_cons wk_sl (wl_cons wk_sc wl_nil))))))) wm_nil))) (garmentref21_Areas_W0 p multiples r0 r1 I0 M0 h0 (([] : List Int), 0) h)

-- garmentref20.Polygon
abbrev garmentref20_Polygon_V (l : List Edge) (r0 : List Spot) (r1 : Int) : Prop := (∃ (check1 : Int), Ret Tryz.prog XS 21 [.sl 2 (l.map cEdge)] (int check1) ∧ ((check1 = 0 → (∃ (vertices2 : List Spot), Ret Tryz.prog XS 39 [.sl 2 (l.map cEdge)] (.fr 2 (vertices2.map cSpot)) ∧ r0 = vertices2 ∧ r1 = 0)) ∧ (¬ (check1 = 0) → r0 = ([] : List Spot) ∧ r1 = check1)))
theorem garmentref20_Polygon_W (l : List Edge) (r0 : List Spot) (r1 : Int) (h : garmentref20_Polygon_V l r0 r1) : Ret Tryz.prog XS 26 [.sl 2 (l.map cEdge)] (.tup [.fr 2 (r0.map cSpot), int r1]) := by
  refine fn_rule Tryz.func26 (by kernel_rfl) (by kernel_rfl) (by kernel_rfl) (by kernel_rfl) ?_
  obtain ⟨check1, c1, h⟩ := h
  have e_1 := (ocs c1)
  by_cases c2 : check1 = 0
  · have h := h.1 c2
    obtain ⟨vertices2, c3, h⟩ := h
    rw [h.1, h.2]
    exact sr (ids := [0]) (vs := [.own 0 0 ((vertices2.map cSpot).length), int 0]) (mem := [(0, .row 2 (vertices2.map cSpot))]) (ac e_1 (ac (abf (bne_f c2)) (ocs c3))) (by kernel_rfl) (by kernel_rfl) (rts_own (List.length_map ..) rfl rfl (rts_sc rfl))
  · have h := h.2 c2
    rw [h.1, h.2]
    exact sr (ids := []) (vs := [.nil, int check1]) (mem := []) (ac e_1 (abt (bne_t c2))) (by kernel_rfl) (by kernel_rfl) (rts_nilfr (rts_sc rfl))

-- garmentref11.Area2
abbrev garmentref11_Area2_V (p : List Spot) (r0 : Int) : Prop := (∃ (check1 : Int), Ret Tryz.prog XS 38 [.sl 2 (p.map cSpot)] (int check1) ∧ ((check1 = 0 → (∃ (twice2 : Int), Ret Tryz.prog XS 42 [.sl 2 (p.map cSpot)] (int twice2) ∧ r0 = twice2)) ∧ (¬ (check1 = 0) → r0 = 0)))
theorem garmentref11_Area2_W (p : List Spot) (r0 : Int) (h : garmentref11_Area2_V p r0) : Ret Tryz.prog XS 27 [.sl 2 (p.map cSpot)] (int r0) := by
  refine fn_rule Tryz.func27 (by kernel_rfl) (by kernel_rfl) (by kernel_rfl) (by kernel_rfl) ?_
  obtain ⟨check1, c1, h⟩ := h
  have e_1 := (ocs c1)
  by_cases c2 : check1 = 0
  · have h := h.1 c2
    obtain ⟨twice2, c3, h⟩ := h
    rw [h]
    exact sr (ids := []) (vs := [int twice2]) (mem := []) (ac e_1 (ac (abf (bne_f c2)) (ocs c3))) (by kernel_rfl) (by kernel_rfl) (rts_sc rfl)
  · have h := h.2 c2
    rw [h]
    exact sr (ids := []) (vs := [int 0]) (mem := []) (ac e_1 (abt (bne_t c2))) (by kernel_rfl) (by kernel_rfl) (rts_sc rfl)

-- garmentref11.Twice
def garmentref11_Twice_S0 (p : List Spot) (sum3 : Int) (i4 : Int) : AS := ⟨[(0, .sl 2 (p.map cSpot)), (3, int sum3), (4, int i4)], [], 0⟩
abbrev garmentref11_Twice_V (p : List Spot) (r0 : Int) (I0 : Int → Int → Prop) (M0 : Int → Int → Nat) : Prop := I0 0 0
abbrev garmentref11_Twice_V0 (p : List Spot) (r0 : Int) (I0 : Int → Int → Prop) (M0 : Int → Int → Nat) (sum3 : Int) (i4 : Int) : Prop := ((i4 < ((p.length : Nat) : Int) → (Idx i4 p.length) ∧ (InR (i4 + 1)) ∧ (((p.length : Nat) : Int) ≠ 0) ∧ (Idx ((i4 + 1).tmod ((p.length : Nat) : Int)) p.length) ∧ (InR ((ai p i4).x * (ai p ((i4 + 1).tmod ((p.length : Nat) : Int))).y)) ∧ (InR (sum3 + ((ai p i4).x * (ai p ((i4 + 1).tmod ((p.length : Nat) : Int))).y))) ∧ (InR ((ai p i4).y * (ai p ((i4 + 1).tmod ((p.length : Nat) : Int))).x)) ∧ (InR ((sum3 + ((ai p i4).x * (ai p ((i4 + 1).tmod ((p.length : Nat) : Int))).y)) - ((ai p i4).y * (ai p ((i4 + 1).tmod ((p.length : Nat) : Int))).x))) ∧ I0 ((sum3 + ((ai p i4).x * (ai p ((i4 + 1).tmod ((p.length : Nat) : Int))).y)) - ((ai p i4).y * (ai p ((i4 + 1).tmod ((p.length : Nat) : Int))).x)) (i4 + 1) ∧ M0 ((sum3 + ((ai p i4).x * (ai p ((i4 + 1).tmod ((p.length : Nat) : Int))).y)) - ((ai p i4).y * (ai p ((i4 + 1).tmod ((p.length : Nat) : Int))).x)) (i4 + 1) < M0 sum3 i4) ∧ (¬ (i4 < ((p.length : Nat) : Int)) → r0 = sum3))
theorem garmentref11_Twice_W0 (p : List Spot) (r0 : Int) (I0 : Int → Int → Prop) (M0 : Int → Int → Nat) (h0 : ∀ (sum3 : Int) (i4 : Int), I0 sum3 i4 → garmentref11_Twice_V0 p r0 I0 M0 sum3 i4) : ∀ (x : Int × Int), I0 x.1 x.2 → loopQ Tryz.prog XS Tryz.f42 0 (int r0) [] (garmentref11_Twice_S0 p x.1 x.2) := by
  intro x0 hx0
  refine loop_rule (fun (x : Int × Int) => I0 x.1 x.2) (fun (x : Int × Int) => M0 x.1 x.2) (fun (x : Int × Int) => garmentref11_Twice_S0 p x.1 x.2) x0 hx0 ?_
  rintro ⟨sum3, i4⟩ hx
  have h := h0 sum3 i4 hx
  clear hx hx0 x0
  have g_1 := (olen cSpot Tryz.prog 24 2 p (by kernel_rfl))
  by_cases c1 : i4 < ((p.length : Nat) : Int)
  · have h := h.1 c1
    obtain ⟨c2, c3, c4, c5, c6, c7, c8, c9, h⟩ := h
    have g_2 := (oadd Tryz.prog 3 (wi64 c3))
    exact sb (ts := [0, 3, 4]) (ids := []) (d := 0) (s0 := ⟨[(0, .sl 2 (p.map cSpot)), (3, int ((sum3 + ((ai p i4).x * (ai p ((i4 + 1).tmod ((p.length : Nat) : Int))).y)) - ((ai p i4).y * (ai p ((i4 + 1).tmod ((p.length : Nat) : Int))).x))), (4, int (i4 + 1))], [], 2⟩) (ac g_1 (ac (abt (dec_t c1)) (ac (oidx cSpot c2) (ac g_2 (ac g_1 (ac (orem Tryz.prog 3 .i64 (i4 + 1) ((p.length : Nat) : Int) c4) (ac (oidx cSpot c5) (ac (omul Tryz.prog 3 (wi64 c6)) (ac (oadd Tryz.prog 3 (wi64 c7)) (ac (omul Tryz.prog 3 (wi64 c8)) (ac (osub Tryz.prog 3 (wi64 c9)) g_2))))))))))) (by kernel_rfl) (by kernel_rfl) rfl (((sum3 + ((ai p i4).x * (ai p ((i4 + 1).tmod ((p.length : Nat) : Int))).y)) - ((ai p i4).y * (ai p ((i4 + 1).tmod ((p.length : Nat) : Int))).x)), (i4 + 1)) h.1 h.2 (Weak.anew [] (by rfl) (wt_cons rfl wk_sl (wt_cons rfl wk_sc (wt_cons rfl wk_sc wt_nil))) wm_nil)
  · have h := h.2 c1
    rw [h]
    exact sr (ids := []) (vs := [int sum3]) (mem := []) (ac g_1 (abf (dec_f c1))) (by kernel_rfl) (by kernel_rfl) (rts_sc rfl)
theorem garmentref11_Twice_W (p : List Spot) (r0 : Int) (I0 : Int → Int → Prop) (M0 : Int → Int → Nat) (h : garmentref11_Twice_V p r0 I0 M0) (h0 : ∀ (sum3 : Int) (i4 : Int), I0 sum3 i4 → garmentref11_Twice_V0 p r0 I0 M0 sum3 i4) : Ret Tryz.prog XS 42 [.sl 2 (p.map cSpot)] (int r0) := by
  refine fn_rule Tryz.func42 (by kernel_rfl) (by kernel_rfl) (by kernel_rfl) (by kernel_rfl) ?_
  exact sl (ts := [0, 3, 4]) (ids := []) (d := 0) (s0 := ⟨[(0, .sl 2 (p.map cSpot)), (3, int 0), (4, int 0)], [], 0⟩) az (by kernel_rfl) (by kernel_rfl) (Weak.anew [] (by rfl) (wt_cons rfl wk_sl (wt_cons rfl wk_sc (wt_cons rfl wk_sc wt_nil))) wm_nil) (garmentref11_Twice_W0 p r0 I0 M0 h0 (0, 0) h)

-- garmentref21.SameInts
def garmentref21_SameInts_S0 (a : List Int) (b : List Int) (i5 : Int) : AS := ⟨[(0, .sl 1 (a.map cI)), (1, .sl 1 (b.map cI)), (5, int i5)], [], 0⟩
abbrev garmentref21_SameInts_V (a : List Int) (b : List Int) (r0 : Bool) (I0 : Int → Prop) (M0 : Int → Nat) : Prop := ((((a.length : Nat) : Int) = ((b.length : Nat) : Int) → I0 0) ∧ (¬ (((a.length : Nat) : Int) = ((b.length : Nat) : Int)) → r0 = false))
abbrev garmentref21_SameInts_V0 (a : List Int) (b : List Int) (r0 : Bool) (I0 : Int → Prop) (M0 : Int → Nat) (i5 : Int) : Prop := ((i5 < ((a.length : Nat) : Int) → (Idx i5 a.length) ∧ (Idx i5 b.length) ∧ (((ai a i5) = (ai b i5) → (InR (i5 + 1)) ∧ I0 (i5 + 1) ∧ M0 (i5 + 1) < M0 i5) ∧ (¬ ((ai a i5) = (ai b i5)) → r0 = false))) ∧ (¬ (i5 < ((a.length : Nat) : Int)) → r0 = true))
theorem garmentref21_SameInts_W0 (a : List Int) (b : List Int) (r0 : Bool) (I0 : Int → Prop) (M0 : Int → Nat) (h0 : ∀ (i5 : Int), I0 i5 → garmentref21_SameInts_V0 a b r0 I0 M0 i5) : ∀ (x : Int), I0 x → loopQ Tryz.prog XS Tryz.f12 0 (boo r0) [] (garmentref21_SameInts_S0 a b x) := by
  intro x0 hx0
  refine loop_rule (fun (x : Int) => I0 x) (fun (x : Int) => M0 x) (fun (x : Int) => garmentref21_SameInts_S0 a b x) x0 hx0 ?_
  intro i5 hx
  have h := h0 i5 hx
  clear hx hx0 x0
  have g_1 := (olen cI Tryz.prog 25 1 a (by kernel_rfl))
  by_cases c1 : i5 < ((a.length : Nat) : Int)
  · have h := h.1 c1
    obtain ⟨c2, c3, h⟩ := h
    have e_2 := (ac (abt (dec_t c1)) (ac (oidx cI c2) (oidx cI c3)))
    by_cases c4 : (ai a i5) = (ai b i5)
    · have h := h.1 c4
      obtain ⟨c5, h⟩ := h
      exact sb (ts := [0, 1, 5]) (ids := []) (d := 0) (s0 := ⟨[(0, .sl 1 (a.map cI)), (1, .sl 1 (b.map cI)), (5, int (i5 + 1))], [], 0⟩) (ac g_1 (ac e_2 (ac (abf (bne_f c4)) (oadd Tryz.prog 3 (wi64 c5))))) (by kernel_rfl) (by kernel_rfl) rfl (i5 + 1) h.1 h.2 (Weak.anew [] (by rfl) (wt_cons rfl wk_sl (wt_cons rfl wk_sl (wt_cons rfl wk_sc wt_nil))) wm_nil)
    · have h := h.2 c4
      rw [h]
      exact sr (ids := []) (vs := [boo false]) (mem := []) (ac g_1 (ac e_2 (abt (bne_t c4)))) (by kernel_rfl) (by kernel_rfl) (rts_sc rfl)
  · have h := h.2 c1
    rw [h]
    exact sr (ids := []) (vs := [boo true]) (mem := []) (ac g_1 (abf (dec_f c1))) (by kernel_rfl) (by kernel_rfl) (rts_sc rfl)
theorem garmentref21_SameInts_W (a : List Int) (b : List Int) (r0 : Bool) (I0 : Int → Prop) (M0 : Int → Nat) (h : garmentref21_SameInts_V a b r0 I0 M0) (h0 : ∀ (i5 : Int), I0 i5 → garmentref21_SameInts_V0 a b r0 I0 M0 i5) : Ret Tryz.prog XS 12 [.sl 1 (a.map cI), .sl 1 (b.map cI)] (boo r0) := by
  refine fn_rule Tryz.func12 (by kernel_rfl) (by kernel_rfl) (by kernel_rfl) (by kernel_rfl) ?_
  have g_3 := (olen cI Tryz.prog 25 1 a (by kernel_rfl))
  have e_4 := (ac g_3 (olen cI Tryz.prog 25 1 b (by kernel_rfl)))
  by_cases c1 : ((a.length : Nat) : Int) = ((b.length : Nat) : Int)
  · have h := h.1 c1
    exact sl (ts := [0, 1, 5]) (ids := []) (d := 0) (s0 := ⟨[(0, .sl 1 (a.map cI)), (1, .sl 1 (b.map cI)), (5, int 0)], [], 0⟩) (ac e_4 (abf (bne_f c1))) (by kernel_rfl) (by kernel_rfl) (Weak.anew [] (by rfl) (wt_cons rfl wk_sl (wt_cons rfl wk_sl (wt_cons rfl wk_sc wt_nil))) wm_nil) (garmentref21_SameInts_W0 a b r0 I0 M0 h0 0 h)
  · have h := h.2 c1
    rw [h]
    exact sr (ids := []) (vs := [boo false]) (mem := []) (ac e_4 (abt (bne_t c1))) (by kernel_rfl) (by kernel_rfl) (rts_sc rfl)

-- garmentlaw21.edge
end Go.Ab
end
