/- A part of the proof. Conditions: those of each theorem. -/
import Derived.Test.YtmdeiagmlabfmaaGreatDoorZTy
import Derived.Test.YtmdeiagmlabfmaaGreatDoorZX
import Derived.Test.YtmdeiagmlabfmaaGreatDoorZWp2
import Derived.Test.YtmdeiagmlabfmaaGreatDoorZWp5
import Derived.Test.YtmdeiagmlabfmaaGreatDoorZWp7
set_option linter.unusedVariables false
set_option linter.unusedSimpArgs false
set_option linter.unusedSectionVars false

section
namespace Go.Ab
open Go.Proofs
set_option maxRecDepth 100000
set_option linter.unusedVariables false
attribute [local irreducible] todoQ
-- garmentref11.meet
abbrev garmentref11_meet_V (a : Spot) (b : Spot) (c : Spot) (d : Spot) (r0 : Bool) : Prop := (∃ (between1 : Bool), Ret Tryz.prog XS 64 [.agg [int a.x, int a.y], .agg [int b.x, int b.y], .agg [int c.x, int c.y]] (boo between1) ∧ ((between1 = true → r0 = true) ∧ (between1 = false → (∃ (between2 : Bool), Ret Tryz.prog XS 64 [.agg [int a.x, int a.y], .agg [int b.x, int b.y], .agg [int d.x, int d.y]] (boo between2) ∧ ((between2 = true → r0 = true) ∧ (between2 = false → (∃ (between3 : Bool), Ret Tryz.prog XS 64 [.agg [int c.x, int c.y], .agg [int d.x, int d.y], .agg [int a.x, int a.y]] (boo between3) ∧ ((between3 = true → r0 = true) ∧ (between3 = false → (∃ (between4 : Bool), Ret Tryz.prog XS 64 [.agg [int c.x, int c.y], .agg [int d.x, int d.y], .agg [int b.x, int b.y]] (boo between4) ∧ ((between4 = true → r0 = true) ∧ (between4 = false → (∃ (cross5 : Int), Ret Tryz.prog XS 71 [.agg [int a.x, int a.y], .agg [int b.x, int b.y], .agg [int c.x, int c.y]] (int cross5) ∧ (∃ (sign6 : Int), Ret Tryz.prog XS 72 [int cross5] (int sign6) ∧ (∃ (cross7 : Int), Ret Tryz.prog XS 71 [.agg [int a.x, int a.y], .agg [int b.x, int b.y], .agg [int d.x, int d.y]] (int cross7) ∧ (∃ (sign8 : Int), Ret Tryz.prog XS 72 [int cross7] (int sign8) ∧ (InR (sign6 * sign8)) ∧ (((sign6 * sign8) < 0 → (∃ (cross9 : Int), Ret Tryz.prog XS 71 [.agg [int c.x, int c.y], .agg [int d.x, int d.y], .agg [int a.x, int a.y]] (int cross9) ∧ (∃ (sign10 : Int), Ret Tryz.prog XS 72 [int cross9] (int sign10) ∧ (∃ (cross11 : Int), Ret Tryz.prog XS 71 [.agg [int c.x, int c.y], .agg [int d.x, int d.y], .agg [int b.x, int b.y]] (int cross11) ∧ (∃ (sign12 : Int), Ret Tryz.prog XS 72 [int cross11] (int sign12) ∧ (InR (sign10 * sign12)) ∧ r0 = (decide ((sign10 * sign12) < 0))))))) ∧ (¬ ((sign6 * sign8) < 0) → r0 = false))))))))))))))))))
theorem garmentref11_meet_W (a : Spot) (b : Spot) (c : Spot) (d : Spot) (r0 : Bool) (h : garmentref11_meet_V a b c d r0) : Ret Tryz.prog XS 65 [.agg [int a.x, int a.y], .agg [int b.x, int b.y], .agg [int c.x, int c.y], .agg [int d.x, int d.y]] (boo r0) := by
  refine fn_rule Tryz.func65 (by kernel_rfl) (by kernel_rfl) (by kernel_rfl) (by kernel_rfl) ?_
  obtain ⟨between1, c1, h⟩ := h
  have e_1 := (ocs c1)
  rcases Bool.eq_false_or_eq_true between1 with c2 | c2
  · have h := h.1 c2
    rw [h]
    exact sr (ids := []) (vs := [boo true]) (mem := []) (ac e_1 (ac (abt c2) (ac (abt c2) (ac (abt c2) (ac (abt c2) (ac (abt c2) (ac abtt (ac abtt (ac abtt (ac abtt (ac abtt (ac abtt (ac abtt (ac abtt (ac abtt (ac abtt abtt)))))))))))))))) (by kernel_rfl) (by kernel_rfl) (rts_sc rfl)
  · have h := h.2 c2
    obtain ⟨between2, c3, h⟩ := h
    have e_2 := (ac (abf c2) (ac (abf c2) (ac (abf c2) (ac (abf c2) (ac (ocs c3) (abf c2))))))
    rcases Bool.eq_false_or_eq_true between2 with c4 | c4
    · have h := h.1 c4
      rw [h]
      exact sr (ids := []) (vs := [boo true]) (mem := []) (ac e_1 (ac e_2 (ac (abt c4) (ac (abt c4) (ac (abt c4) (ac (abt c4) (ac (abt c4) (ac abtt (ac abtt (ac abtt (ac abtt (ac abtt abtt)))))))))))) (by kernel_rfl) (by kernel_rfl) (rts_sc rfl)
    · have h := h.2 c4
      obtain ⟨between3, c5, h⟩ := h
      have e_3 := (ac (abf c4) (ac (abf c4) (ac (abf c4) (ac (abf c4) (ac (ocs c5) (abf c4))))))
      rcases Bool.eq_false_or_eq_true between3 with c6 | c6
      · have h := h.1 c6
        rw [h]
        exact sr (ids := []) (vs := [boo true]) (mem := []) (ac e_1 (ac e_2 (ac e_3 (ac (abt c6) (ac (abt c6) (ac (abt c6) (ac (abt c6) (ac (abt c6) abtt)))))))) (by kernel_rfl) (by kernel_rfl) (rts_sc rfl)
      · have h := h.2 c6
        obtain ⟨between4, c7, h⟩ := h
        have e_4 := (ac (abf c6) (ac (abf c6) (ac (abf c6) (ac (abf c6) (ac (ocs c7) (abf c6))))))
        rcases Bool.eq_false_or_eq_true between4 with c8 | c8
        · have h := h.1 c8
          rw [h]
          exact sr (ids := []) (vs := [boo true]) (mem := []) (ac e_1 (ac e_2 (ac e_3 (ac e_4 (abt c8))))) (by kernel_rfl) (by kernel_rfl) (rts_sc rfl)
        · have h := h.2 c8
          obtain ⟨cross5, c9, sign6, c10, cross7, c11, sign8, c12, c13, h⟩ := h
          have e_5 := (ac (abf c8) (ac (ocs c9) (ac (ocs c10) (ac (ocs c11) (ac (ocs c12) (omul Tryz.prog 3 (wi64 c13)))))))
          by_cases c14 : (sign6 * sign8) < 0
          · have h := h.1 c14
            obtain ⟨cross9, c15, sign10, c16, cross11, c17, sign12, c18, c19, h⟩ := h
            have g_6 := (abt (dec_t c14))
            rw [h]
            exact sr (ids := []) (vs := [boo (decide ((sign10 * sign12) < 0))]) (mem := []) (ac e_1 (ac e_2 (ac e_3 (ac e_4 (ac e_5 (ac g_6 (ac g_6 (ac g_6 (ac g_6 (ac (ocs c15) (ac g_6 (ac (ocs c16) (ac g_6 (ac g_6 (ac g_6 (ac g_6 (ac (ocs c17) (ac g_6 (ac (ocs c18) (ac g_6 (ac (omul Tryz.prog 3 (wi64 c19)) (ac g_6 g_6)))))))))))))))))))))) (by kernel_rfl) (by kernel_rfl) (rts_sc rfl)
          · have h := h.2 c14
            have g_7 := (abf (dec_f c14))
            rw [h]
            exact sr (ids := []) (vs := [boo false]) (mem := []) (ac e_1 (ac e_2 (ac e_3 (ac e_4 (ac e_5 (ac g_7 (ac g_7 (ac g_7 (ac g_7 (ac g_7 (ac g_7 (ac g_7 (ac g_7 (ac g_7 (ac g_7 (ac g_7 (ac g_7 g_7))))))))))))))))) (by kernel_rfl) (by kernel_rfl) (rts_sc rfl)

-- garmentref11.sign
abbrev garmentref11_sign_V (n : Int) (r0 : Int) : Prop := ((n > 0 → r0 = 1) ∧ (¬ (n > 0) → ((n < 0 → r0 = (-1)) ∧ (¬ (n < 0) → r0 = 0))))
theorem garmentref11_sign_W (n : Int) (r0 : Int) (h : garmentref11_sign_V n r0) : Ret Tryz.prog XS 72 [int n] (int r0) := by
  refine fn_rule Tryz.func72 (by kernel_rfl) (by kernel_rfl) (by kernel_rfl) (by kernel_rfl) ?_
  by_cases c1 : n > 0
  · have h := h.1 c1
    rw [h]
    exact sr (ids := []) (vs := [int 1]) (mem := []) (abt (dec_t c1)) (by kernel_rfl) (by kernel_rfl) (rts_sc rfl)
  · have h := h.2 c1
    have e_1 := (abf (dec_f c1))
    by_cases c2 : n < 0
    · have h := h.1 c2
      rw [h]
      exact sr (ids := []) (vs := [int (-1)]) (mem := []) (ac e_1 (abt (dec_t c2))) (by kernel_rfl) (by kernel_rfl) (rts_sc rfl)
    · have h := h.2 c2
      rw [h]
      exact sr (ids := []) (vs := [int 0]) (mem := []) (ac e_1 (abf (dec_f c2))) (by kernel_rfl) (by kernel_rfl) (rts_sc rfl)

-- garmentref21.graded
def garmentref21_graded_S0 (listappend : Edge) (a : Spot) (a2 : Spot) (v9 : Int) (v7 : List Spot) : AS := ⟨[(3, .ptr 0 0 0), (4, .ptr 1 0 0), (5, .ptr 2 0 0), (6, .ptr 3 0 0), (7, .ptr 4 0 0), (8, int (((listappend.line.length : Nat) : Int) - 1)), (9, int v9)], [(0, .box [str listappend.name, .sl 2 (listappend.line.map cSpot)]), (1, .box [int a.x, int a.y]), (2, .box [int a2.x, int a2.y]), (3, .box [str ByteArray.empty, .nil]), (5, .row 2 (v7.map cSpot)), (4, .box [str listappend.name, .own 5 0 v7.length])], 6⟩
abbrev garmentref21_graded_V (listappend : Edge) (a : Spot) (a2 : Spot) (r0 : Edge) (I0 : Int → (List Spot) → Prop) (M0 : Int → (List Spot) → Nat) : Prop := (InR (((listappend.line.length : Nat) : Int) - 1)) ∧ I0 0 ([] : List Spot)
abbrev garmentref21_graded_V0 (listappend : Edge) (a : Spot) (a2 : Spot) (r0 : Edge) (I0 : Int → (List Spot) → Prop) (M0 : Int → (List Spot) → Nat) (v9 : Int) (v7 : List Spot) : Prop := ((v9 ≤ (((listappend.line.length : Nat) : Int) - 1) → (InR ((((listappend.line.length : Nat) : Int) - 1) - v9)) ∧ (InR (((((listappend.line.length : Nat) : Int) - 1) - v9) * a.x)) ∧ (InR (v9 * a2.x)) ∧ (InR ((((((listappend.line.length : Nat) : Int) - 1) - v9) * a.x) + (v9 * a2.x))) ∧ (∃ (round1 : Int), Ret Tryz.prog XS 40 [int ((((((listappend.line.length : Nat) : Int) - 1) - v9) * a.x) + (v9 * a2.x)), int (((listappend.line.length : Nat) : Int) - 1)] (int round1) ∧ (InR (((((listappend.line.length : Nat) : Int) - 1) - v9) * a.y)) ∧ (InR (v9 * a2.y)) ∧ (InR ((((((listappend.line.length : Nat) : Int) - 1) - v9) * a.y) + (v9 * a2.y))) ∧ (∃ (round2 : Int), Ret Tryz.prog XS 40 [int ((((((listappend.line.length : Nat) : Int) - 1) - v9) * a.y) + (v9 * a2.y)), int (((listappend.line.length : Nat) : Int) - 1)] (int round2) ∧ (Idx v9 listappend.line.length) ∧ (InR ((ai listappend.line v9).x + round1)) ∧ (InR ((ai listappend.line v9).y + round2)) ∧ (Cap 16 (v7 ++ ([(⟨((ai listappend.line v9).x + round1), ((ai listappend.line v9).y + round2)⟩ : Spot)] : List Spot)).length) ∧ (InR (v9 + 1)) ∧ I0 (v9 + 1) (v7 ++ ([(⟨((ai listappend.line v9).x + round1), ((ai listappend.line v9).y + round2)⟩ : Spot)] : List Spot)) ∧ M0 (v9 + 1) (v7 ++ ([(⟨((ai listappend.line v9).x + round1), ((ai listappend.line v9).y + round2)⟩ : Spot)] : List Spot)) < M0 v9 v7))) ∧ (¬ (v9 ≤ (((listappend.line.length : Nat) : Int) - 1)) → r0 = (⟨listappend.name, v7⟩ : Edge)))
theorem garmentref21_graded_W0 (listappend : Edge) (a : Spot) (a2 : Spot) (r0 : Edge) (I0 : Int → (List Spot) → Prop) (M0 : Int → (List Spot) → Nat) (h0 : ∀ (v9 : Int) (v7 : List Spot), I0 v9 v7 → garmentref21_graded_V0 listappend a a2 r0 I0 M0 v9 v7) : ∀ (x : Int × (List Spot)), I0 x.1 x.2 → loopQ Tryz.prog XS Tryz.f22 0 (.agg [str r0.name, .fr 2 (r0.line.map cSpot)]) [] (garmentref21_graded_S0 listappend a a2 x.1 x.2) := by
  intro x0 hx0
  refine loop_rule (fun (x : Int × (List Spot)) => I0 x.1 x.2) (fun (x : Int × (List Spot)) => M0 x.1 x.2) (fun (x : Int × (List Spot)) => garmentref21_graded_S0 listappend a a2 x.1 x.2) x0 hx0 ?_
  rintro ⟨v9, v7⟩ hx
  have h := h0 v9 v7 hx
  clear hx hx0 x0
  by_cases c1 : v9 ≤ (((listappend.line.length : Nat) : Int) - 1)
  · have h := h.1 c1
    obtain ⟨c2, c3, c4, c5, round1, c6, c7, c8, c9, round2, c10, c11, c12, c13, c14, c15, h⟩ := h
    have g_1 := (osub Tryz.prog 3 (wi64 c2))
    have g_2 := (oidx cSpot c11)
    exact sb (ts := [3, 4, 5, 6, 7, 8, 9]) (ids := [0, 1, 2, 3, 8, 4]) (d := 0) (s0 := ⟨[(3, .ptr 0 0 0), (4, .ptr 1 0 0), (5, .ptr 2 0 0), (6, .ptr 3 0 0), (7, .ptr 4 0 0), (8, int (((listappend.line.length : Nat) : Int) - 1)), (9, int (v9 + 1))], [(0, .box [str listappend.name, .sl 2 (listappend.line.map cSpot)]), (1, .box [int a.x, int a.y]), (2, .box [int a2.x, int a2.y]), (3, .box [str ByteArray.empty, .nil]), (8, .row 2 ((v7 ++ ([(⟨((ai listappend.line v9).x + round1), ((ai listappend.line v9).y + round2)⟩ : Spot)] : List Spot)).map cSpot)), (4, .box [str listappend.name, .own 8 0 ((v7 ++ ([(⟨((ai listappend.line v9).x + round1), ((ai listappend.line v9).y + round2)⟩ : Spot)] : List Spot)).length)])], 9⟩) (ac (abt (dec_t c1)) (ac g_1 (ac (omul Tryz.prog 3 (wi64 c3)) (ac (omul Tryz.prog 3 (wi64 c4)) (ac (oadd Tryz.prog 3 (wi64 c5)) (ac (ocs c6) (ac g_1 (ac (omul Tryz.prog 3 (wi64 c7)) (ac (omul Tryz.prog 3 (wi64 c8)) (ac (oadd Tryz.prog 3 (wi64 c9)) (ac (ocs c10) (ac g_2 (ac (oadd Tryz.prog 3 (wi64 c12)) (ac g_2 (ac (oadd Tryz.prog 3 (wi64 c13)) (ac (oappo cSpot (n := v7.length) (m := ([(⟨((ai listappend.line v9).x + round1), ((ai listappend.line v9).y + round2)⟩ : Spot)] : List Spot).length) rfl rfl c14) (oadd Tryz.prog 3 (wi64 c15)))))))))))))))))) (by kernel_rfl) (by kernel_rfl) rfl ((v9 + 1), (v7 ++ ([(⟨((ai listappend.line v9).x + round1), ((ai listappend.line v9).y + round2)⟩ : Spot)] : List Spot))) h.1 h.2 (Weak.anew [(0, some 0), (1, some 1), (2, some 2), (3, some 3), (5, some 8), (4, some 4)] (by rfl) (wt_cons rfl (wk_ptr rfl) (wt_cons rfl (wk_ptr rfl) (wt_cons rfl (wk_ptr rfl) (wt_cons rfl (wk_ptr rfl) (wt_cons rfl (wk_ptr rfl) (wt_cons rfl wk_sc (wt_cons rfl wk_sc wt_nil))))))) (wm_box rfl rfl (wl_cons wk_sc (wl_cons wk_sl wl_nil)) (wm_box rfl rfl (wl_cons wk_sc (wl_cons wk_sc wl_nil)) (wm_box rfl rfl (wl_cons wk_sc (wl_cons wk_sc wl_nil)) (wm_box rfl rfl (wl_cons wk_sc (wl_cons wk_nil wl_nil)) (wm_row rfl rfl (wm_box rfl rfl (wl_cons wk_sc (wl_cons (wk_own rfl rfl) wl_nil)) wm_nil)))))))
  · have h := h.2 c1
    rw [h]
    exact sr (ids := [5]) (vs := [.agg [str listappend.name, .own 5 0 v7.length]]) (mem := [(5, .row 2 (v7.map cSpot))]) (abf (dec_f c1)) (by kernel_rfl) (by kernel_rfl) (rts_agg (rcs_sc (rcs_own rfl rfl rfl (rcs_nil rfl))))
theorem garmentref21_graded_W (listappend : Edge) (a : Spot) (a2 : Spot) (r0 : Edge) (I0 : Int → (List Spot) → Prop) (M0 : Int → (List Spot) → Nat) (h : garmentref21_graded_V listappend a a2 r0 I0 M0) (h0 : ∀ (v9 : Int) (v7 : List Spot), I0 v9 v7 → garmentref21_graded_V0 listappend a a2 r0 I0 M0 v9 v7) : Ret Tryz.prog XS 22 [.agg [str listappend.name, .sl 2 (listappend.line.map cSpot)], .agg [int a.x, int a.y], .agg [int a2.x, int a2.y]] (.agg [str r0.name, .fr 2 (r0.line.map cSpot)]) := by
  refine fn_rule Tryz.func22 (by kernel_rfl) (by kernel_rfl) (by kernel_rfl) (by kernel_rfl) ?_
  obtain ⟨c1, h⟩ := h
  exact sl (ts := [3, 4, 5, 6, 7, 8, 9]) (ids := [0, 1, 2, 3, 4]) (d := 0) (s0 := ⟨[(3, .ptr 0 0 0), (4, .ptr 1 0 0), (5, .ptr 2 0 0), (6, .ptr 3 0 0), (7, .ptr 4 0 0), (8, int (((listappend.line.length : Nat) : Int) - 1)), (9, int 0)], [(0, .box [str listappend.name, .sl 2 (listappend.line.map cSpot)]), (1, .box [int a.x, int a.y]), (2, .box [int a2.x, int a2.y]), (3, .box [str ByteArray.empty, .nil]), (4, .box [str listappend.name, .nil])], 5⟩) (ac (olen cSpot Tryz.prog 24 2 listappend.line (by kernel_rfl)) (osub Tryz.prog 3 (wi64 c1))) (by kernel_rfl) (by kernel_rfl) (Weak.anew [(0, some 0), (1, some 1), (2, some 2), (3, some 3), (5, none), (4, some 4)] (by rfl) (wt_cons rfl (wk_ptr rfl) (wt_cons rfl (wk_ptr rfl) (wt_cons rfl (wk_ptr rfl) (wt_cons rfl (wk_ptr rfl) (wt_cons rfl (wk_ptr rfl) (wt_cons rfl wk_sc (wt_cons rfl wk_sc wt_nil))))))) (wm_box rfl rfl (wl_cons wk_sc (wl_cons wk_sl wl_nil)) (wm_box rfl rfl (wl_cons wk_sc (wl_cons wk_sc wl_nil)) (wm_box rfl rfl (wl_cons wk_sc (wl_cons wk_sc wl_nil)) (wm_box rfl rfl (wl_cons wk_sc (wl_cons wk_nil wl_nil)) (wm_none rfl (wm_box rfl rfl (wl_cons wk_sc (wl_cons (wk_nilown rfl) wl_nil)) wm_nil))))))) (garmentref21_graded_W0 listappend a a2 r0 I0 M0 h0 (0, ([] : List Spot)) h)

-- garmentref21.round
abbrev garmentref21_round_V (a : Int) (n : Int) (r0 : Int) : Prop := ((a < 0 → (InR ((-2) * a)) ∧ (InR (((-2) * a) + n)) ∧ (InR (2 * n)) ∧ ((2 * n) ≠ 0) ∧ (InR ((((-2) * a) + n).tdiv (2 * n))) ∧ (InR (-((((-2) * a) + n).tdiv (2 * n)))) ∧ r0 = (-((((-2) * a) + n).tdiv (2 * n)))) ∧ (¬ (a < 0) → (InR (2 * a)) ∧ (InR ((2 * a) + n)) ∧ (InR (2 * n)) ∧ ((2 * n) ≠ 0) ∧ (InR (((2 * a) + n).tdiv (2 * n))) ∧ r0 = (((2 * a) + n).tdiv (2 * n))))
theorem garmentref21_round_W (a : Int) (n : Int) (r0 : Int) (h : garmentref21_round_V a n r0) : Ret Tryz.prog XS 40 [int a, int n] (int r0) := by
  refine fn_rule Tryz.func40 (by kernel_rfl) (by kernel_rfl) (by kernel_rfl) (by kernel_rfl) ?_
  by_cases c1 : a < 0
  · have h := h.1 c1
    obtain ⟨c2, c3, c4, c5, c6, c7, h⟩ := h
    have g_1 := (omul Tryz.prog 3 (wi64 c2))
    have g_2 := (oadd Tryz.prog 3 (wi64 c3))
    have g_3 := (omul Tryz.prog 3 (wi64 c4))
    have g_4 := (oquo Tryz.prog 3 c5 (wi64 c6))
    rw [h]
    exact sr (ids := []) (vs := [int (-((((-2) * a) + n).tdiv (2 * n)))]) (mem := []) (ac (abt (dec_t c1)) (ac g_1 (ac g_2 (ac g_3 (ac g_4 (oneg (wi64 c7))))))) (by kernel_rfl) (by kernel_rfl) (rts_sc rfl)
  · have h := h.2 c1
    obtain ⟨c2, c3, c4, c5, c6, h⟩ := h
    have g_5 := (omul Tryz.prog 3 (wi64 c2))
    have g_6 := (oadd Tryz.prog 3 (wi64 c3))
    have g_7 := (omul Tryz.prog 3 (wi64 c4))
    have g_8 := (oquo Tryz.prog 3 c5 (wi64 c6))
    rw [h]
    exact sr (ids := []) (vs := [int (((2 * a) + n).tdiv (2 * n))]) (mem := []) (ac (abf (dec_f c1)) (ac g_5 (ac g_6 (ac g_7 g_8)))) (by kernel_rfl) (by kernel_rfl) (rts_sc rfl)

-- garmentref21.SameEdges
def garmentref21_SameEdges_S0 (a : List Edge) (b : List Edge) (i5 : Int) : AS := ⟨[(0, .sl 2 (a.map cEdge)), (1, .sl 2 (b.map cEdge)), (5, int i5)], [], 0⟩
abbrev garmentref21_SameEdges_V (a : List Edge) (b : List Edge) (r0 : Bool) (I0 : Int → Prop) (M0 : Int → Nat) : Prop := ((((a.length : Nat) : Int) = ((b.length : Nat) : Int) → I0 0) ∧ (¬ (((a.length : Nat) : Int) = ((b.length : Nat) : Int)) → r0 = false))
abbrev garmentref21_SameEdges_V0 (a : List Edge) (b : List Edge) (r0 : Bool) (I0 : Int → Prop) (M0 : Int → Nat) (i5 : Int) : Prop := ((i5 < ((a.length : Nat) : Int) → (Idx i5 a.length) ∧ (Idx i5 b.length) ∧ (((ai a i5).name = (ai b i5).name → (∃ (same1 : Bool), Ret Tryz.prog XS 23 [.sl 2 (((ai a i5).line).map cSpot), .sl 2 (((ai b i5).line).map cSpot)] (boo same1) ∧ ((same1 = true → (InR (i5 + 1)) ∧ I0 (i5 + 1) ∧ M0 (i5 + 1) < M0 i5) ∧ (same1 = false → r0 = false)))) ∧ (¬ ((ai a i5).name = (ai b i5).name) → r0 = false))) ∧ (¬ (i5 < ((a.length : Nat) : Int)) → r0 = true))
theorem garmentref21_SameEdges_W0 (a : List Edge) (b : List Edge) (r0 : Bool) (I0 : Int → Prop) (M0 : Int → Nat) (h0 : ∀ (i5 : Int), I0 i5 → garmentref21_SameEdges_V0 a b r0 I0 M0 i5) : ∀ (x : Int), I0 x → loopQ Tryz.prog XS Tryz.f9 0 (boo r0) [] (garmentref21_SameEdges_S0 a b x) := by
  intro x0 hx0
  refine loop_rule (fun (x : Int) => I0 x) (fun (x : Int) => M0 x) (fun (x : Int) => garmentref21_SameEdges_S0 a b x) x0 hx0 ?_
  intro i5 hx
  have h := h0 i5 hx
  clear hx hx0 x0
  have g_1 := (olen cEdge Tryz.prog 22 2 a (by kernel_rfl))
  by_cases c1 : i5 < ((a.length : Nat) : Int)
  · have h := h.1 c1
    obtain ⟨c2, c3, h⟩ := h
    have g_2 := (oidx cEdge c2)
    have g_3 := (oidx cEdge c3)
    have e_4 := (ac (abt (dec_t c1)) (ac g_2 g_3))
    by_cases c4 : (ai a i5).name = (ai b i5).name
    · have h := h.1 c4
      obtain ⟨same1, c5, h⟩ := h
      have g_5 := (abf (not_f (streq_t c4)))
      have e_6 := (ac g_5 (ac g_5 (ac g_5 (ac g_2 (ac g_5 (ac g_5 (ac g_5 (ac g_5 (ac g_5 (ac g_3 (ac g_5 (ac g_5 (ac g_5 (ac (ocs c5) (ac g_5 g_5)))))))))))))))
      rcases Bool.eq_false_or_eq_true same1 with c6 | c6
      · have h := h.1 c6
        obtain ⟨c7, h⟩ := h
        exact sb (ts := [0, 1, 5]) (ids := []) (d := 0) (s0 := ⟨[(0, .sl 2 (a.map cEdge)), (1, .sl 2 (b.map cEdge)), (5, int (i5 + 1))], [], 0⟩) (ac g_1 (ac e_4 (ac e_6 (ac (abf (not_f c6)) (oadd Tryz.prog 3 (wi64 c7)))))) (by kernel_rfl) (by kernel_rfl) rfl (i5 + 1) h.1 h.2 (Weak.anew [] (by rfl) (wt_cons rfl wk_sl (wt_cons rfl wk_sl (wt_cons rfl wk_sc wt_nil))) wm_nil)
      · have h := h.2 c6
        rw [h]
        exact sr (ids := []) (vs := [boo false]) (mem := []) (ac g_1 (ac e_4 (ac e_6 (abt (not_t c6))))) (by kernel_rfl) (by kernel_rfl) (rts_sc rfl)
    · have h := h.2 c4
      have g_7 := (abt (not_t (streq_f c4)))
      rw [h]
      exact sr (ids := []) (vs := [boo false]) (mem := []) (ac g_1 (ac e_4 (ac g_7 (ac g_7 (ac g_7 (ac g_7 (ac g_7 (ac g_7 (ac g_7 (ac g_7 (ac g_7 (ac g_7 (ac g_7 (ac g_7 (ac g_7 abtt))))))))))))))) (by kernel_rfl) (by kernel_rfl) (rts_sc rfl)
  · have h := h.2 c1
    rw [h]
    exact sr (ids := []) (vs := [boo true]) (mem := []) (ac g_1 (abf (dec_f c1))) (by kernel_rfl) (by kernel_rfl) (rts_sc rfl)
theorem garmentref21_SameEdges_W (a : List Edge) (b : List Edge) (r0 : Bool) (I0 : Int → Prop) (M0 : Int → Nat) (h : garmentref21_SameEdges_V a b r0 I0 M0) (h0 : ∀ (i5 : Int), I0 i5 → garmentref21_SameEdges_V0 a b r0 I0 M0 i5) : Ret Tryz.prog XS 9 [.sl 2 (a.map cEdge), .sl 2 (b.map cEdge)] (boo r0) := by
  refine fn_rule Tryz.func9 (by kernel_rfl) (by kernel_rfl) (by kernel_rfl) (by kernel_rfl) ?_
  have g_8 := (olen cEdge Tryz.prog 22 2 a (by kernel_rfl))
  have e_9 := (ac g_8 (olen cEdge Tryz.prog 22 2 b (by kernel_rfl)))
  by_cases c1 : ((a.length : Nat) : Int) = ((b.length : Nat) : Int)
  · have h := h.1 c1
    exact sl (ts := [0, 1, 5]) (ids := []) (d := 0) (s0 := ⟨[(0, .sl 2 (a.map cEdge)), (1, .sl 2 (b.map cEdge)), (5, int 0)], [], 0⟩) (ac e_9 (abf (bne_f c1))) (by kernel_rfl) (by kernel_rfl) (Weak.anew [] (by rfl) (wt_cons rfl wk_sl (wt_cons rfl wk_sl (wt_cons rfl wk_sc wt_nil))) wm_nil) (garmentref21_SameEdges_W0 a b r0 I0 M0 h0 0 h)
  · have h := h.2 c1
    rw [h]
    exact sr (ids := []) (vs := [boo false]) (mem := []) (ac e_9 (abt (bne_t c1))) (by kernel_rfl) (by kernel_rfl) (rts_sc rfl)

-- garmentref11.Same
def garmentref11_Same_S0 (a : List Spot) (b : List Spot) (i5 : Int) : AS := ⟨[(0, .sl 2 (a.map cSpot)), (1, .sl 2 (b.map cSpot)), (5, int i5)], [], 0⟩
abbrev garmentref11_Same_V (a : List Spot) (b : List Spot) (r0 : Bool) (I0 : Int → Prop) (M0 : Int → Nat) : Prop := ((((a.length : Nat) : Int) = ((b.length : Nat) : Int) → I0 0) ∧ (¬ (((a.length : Nat) : Int) = ((b.length : Nat) : Int)) → r0 = false))
abbrev garmentref11_Same_V0 (a : List Spot) (b : List Spot) (r0 : Bool) (I0 : Int → Prop) (M0 : Int → Nat) (i5 : Int) : Prop := ((i5 < ((a.length : Nat) : Int) → (Idx i5 a.length) ∧ (Idx i5 b.length) ∧ (((ai a i5) = (ai b i5) → (InR (i5 + 1)) ∧ I0 (i5 + 1) ∧ M0 (i5 + 1) < M0 i5) ∧ (¬ ((ai a i5) = (ai b i5)) → r0 = false))) ∧ (¬ (i5 < ((a.length : Nat) : Int)) → r0 = true))
theorem garmentref11_Same_W0 (a : List Spot) (b : List Spot) (r0 : Bool) (I0 : Int → Prop) (M0 : Int → Nat) (h0 : ∀ (i5 : Int), I0 i5 → garmentref11_Same_V0 a b r0 I0 M0 i5) : ∀ (x : Int), I0 x → loopQ Tryz.prog XS Tryz.f23 0 (boo r0) [] (garmentref11_Same_S0 a b x) := by
  intro x0 hx0
  refine loop_rule (fun (x : Int) => I0 x) (fun (x : Int) => M0 x) (fun (x : Int) => garmentref11_Same_S0 a b x) x0 hx0 ?_
  intro i5 hx
  have h := h0 i5 hx
  clear hx hx0 x0
  have g_1 := (olen cSpot Tryz.prog 24 2 a (by kernel_rfl))
  by_cases c1 : i5 < ((a.length : Nat) : Int)
  · have h := h.1 c1
    obtain ⟨c2, c3, h⟩ := h
    have e_2 := (ac (abt (dec_t c1)) (ac (oidx cSpot c2) (oidx cSpot c3)))
    by_cases c4 : (ai a i5) = (ai b i5)
    · have h := h.1 c4
      obtain ⟨c5, h⟩ := h
      exact sb (ts := [0, 1, 5]) (ids := []) (d := 0) (s0 := ⟨[(0, .sl 2 (a.map cSpot)), (1, .sl 2 (b.map cSpot)), (5, int (i5 + 1))], [], 0⟩) (ac g_1 (ac e_2 (ac (abf (not_f (sSpot_t c4))) (oadd Tryz.prog 3 (wi64 c5))))) (by kernel_rfl) (by kernel_rfl) rfl (i5 + 1) h.1 h.2 (Weak.anew [] (by rfl) (wt_cons rfl wk_sl (wt_cons rfl wk_sl (wt_cons rfl wk_sc wt_nil))) wm_nil)
    · have h := h.2 c4
      rw [h]
      exact sr (ids := []) (vs := [boo false]) (mem := []) (ac g_1 (ac e_2 (abt (not_t (sSpot_f c4))))) (by kernel_rfl) (by kernel_rfl) (rts_sc rfl)
  · have h := h.2 c1
    rw [h]
    exact sr (ids := []) (vs := [boo true]) (mem := []) (ac g_1 (abf (dec_f c1))) (by kernel_rfl) (by kernel_rfl) (rts_sc rfl)
theorem garmentref11_Same_W (a : List Spot) (b : List Spot) (r0 : Bool) (I0 : Int → Prop) (M0 : Int → Nat) (h : garmentref11_Same_V a b r0 I0 M0) (h0 : ∀ (i5 : Int), I0 i5 → garmentref11_Same_V0 a b r0 I0 M0 i5) : Ret Tryz.prog XS 23 [.sl 2 (a.map cSpot), .sl 2 (b.map cSpot)] (boo r0) := by
  refine fn_rule Tryz.func23 (by kernel_rfl) (by kernel_rfl) (by kernel_rfl) (by kernel_rfl) ?_
  have g_3 := (olen cSpot Tryz.prog 24 2 a (by kernel_rfl))
  have e_4 := (ac g_3 (olen cSpot Tryz.prog 24 2 b (by kernel_rfl)))
  by_cases c1 : ((a.length : Nat) : Int) = ((b.length : Nat) : Int)
  · have h := h.1 c1
    exact sl (ts := [0, 1, 5]) (ids := []) (d := 0) (s0 := ⟨[(0, .sl 2 (a.map cSpot)), (1, .sl 2 (b.map cSpot)), (5, int 0)], [], 0⟩) (ac e_4 (abf (bne_f c1))) (by kernel_rfl) (by kernel_rfl) (Weak.anew [] (by rfl) (wt_cons rfl wk_sl (wt_cons rfl wk_sl (wt_cons rfl wk_sc wt_nil))) wm_nil) (garmentref11_Same_W0 a b r0 I0 M0 h0 0 h)
  · have h := h.2 c1
    rw [h]
    exact sr (ids := []) (vs := [boo false]) (mem := []) (ac e_4 (abt (bne_t c1))) (by kernel_rfl) (by kernel_rfl) (rts_sc rfl)

-- grade.Areas
end Go.Ab
end
