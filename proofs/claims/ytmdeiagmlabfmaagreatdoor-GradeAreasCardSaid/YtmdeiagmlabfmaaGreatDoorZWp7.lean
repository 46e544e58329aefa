/- A part of the proof. Conditions: those of each theorem. -/
import Derived.Test.YtmdeiagmlabfmaaGreatDoorZTy
import Derived.Test.YtmdeiagmlabfmaaGreatDoorZX
set_option linter.unusedVariables false
set_option linter.unusedSimpArgs false
set_option linter.unusedSectionVars false

section
namespace Go.Ab
open Go.Proofs
set_option maxRecDepth 100000
set_option linter.unusedVariables false
attribute [local irreducible] todoQ
-- garmentref20.Check
def garmentref20_Check_S0 (listappend : List Edge) (v3 : Int) : AS := ⟨[(0, .sl 2 (listappend.map cEdge)), (3, int v3)], [], 0⟩
def garmentref20_Check_S1 (listappend : List Edge) (v5 : Int) : AS := ⟨[(0, .sl 2 (listappend.map cEdge)), (5, int v5)], [], 0⟩
abbrev garmentref20_Check_V (listappend : List Edge) (r0 : Int) (I0 : Int → Prop) (M0 : Int → Nat) (I1 : Int → Prop) (M1 : Int → Nat) : Prop := ((((listappend.length : Nat) : Int) > 16 → r0 = 5) ∧ (¬ (((listappend.length : Nat) : Int) > 16) → ((((listappend.length : Nat) : Int) < 2 → r0 = 11) ∧ (¬ (((listappend.length : Nat) : Int) < 2) → I0 0))))
abbrev garmentref20_Check_V0 (listappend : List Edge) (r0 : Int) (I0 : Int → Prop) (M0 : Int → Nat) (I1 : Int → Prop) (M1 : Int → Nat) (v3 : Int) : Prop := ((v3 < ((listappend.length : Nat) : Int) → (Idx v3 listappend.length) ∧ (∃ (name1 : Bool), Ret Tryz.prog XS 35 [str ((ai listappend v3).name)] (boo name1) ∧ ((name1 = true → (∃ (named2 : Bool), Ret Tryz.prog XS 36 [.sl 2 (listappend.map cEdge), int v3, str ((ai listappend v3).name)] (boo named2) ∧ ((named2 = true → r0 = 7) ∧ (named2 = false → (∃ (check3 : Int), Ret Tryz.prog XS 37 [.sl 2 (((ai listappend v3).line).map cSpot)] (int check3) ∧ ((check3 = 0 → (InR (v3 + 1)) ∧ I0 (v3 + 1) ∧ M0 (v3 + 1) < M0 v3) ∧ (¬ (check3 = 0) → r0 = check3))))))) ∧ (name1 = false → r0 = 1)))) ∧ (¬ (v3 < ((listappend.length : Nat) : Int)) → I1 0))
abbrev garmentref20_Check_V1 (listappend : List Edge) (r0 : Int) (I0 : Int → Prop) (M0 : Int → Nat) (I1 : Int → Prop) (M1 : Int → Nat) (v5 : Int) : Prop := ((v5 < ((listappend.length : Nat) : Int) → (Idx v5 listappend.length) ∧ (InR (v5 + 1)) ∧ (((listappend.length : Nat) : Int) ≠ 0) ∧ (Idx ((v5 + 1).tmod ((listappend.length : Nat) : Int)) listappend.length) ∧ (InR (((((ai listappend v5).line).length : Nat) : Int) - 1)) ∧ (Idx (((((ai listappend v5).line).length : Nat) : Int) - 1) ((ai listappend v5).line).length) ∧ (Idx 0 ((ai listappend ((v5 + 1).tmod ((listappend.length : Nat) : Int))).line).length) ∧ (((ai ((ai listappend v5).line) (((((ai listappend v5).line).length : Nat) : Int) - 1)) = (ai ((ai listappend ((v5 + 1).tmod ((listappend.length : Nat) : Int))).line) 0) → I1 (v5 + 1) ∧ M1 (v5 + 1) < M1 v5) ∧ (¬ ((ai ((ai listappend v5).line) (((((ai listappend v5).line).length : Nat) : Int) - 1)) = (ai ((ai listappend ((v5 + 1).tmod ((listappend.length : Nat) : Int))).line) 0)) → r0 = 11))) ∧ (¬ (v5 < ((listappend.length : Nat) : Int)) → (∃ (vertices1 : List Spot), Ret Tryz.prog XS 39 [.sl 2 (listappend.map cEdge)] (.fr 2 (vertices1.map cSpot)) ∧ (∃ (check2 : Int), Ret Tryz.prog XS 38 [.sl 2 (vertices1.map cSpot)] (int check2) ∧ r0 = check2))))
theorem garmentref20_Check_W1 (listappend : List Edge) (r0 : Int) (I0 : Int → Prop) (M0 : Int → Nat) (I1 : Int → Prop) (M1 : Int → Nat) (h0 : ∀ (v3 : Int), I0 v3 → garmentref20_Check_V0 listappend r0 I0 M0 I1 M1 v3) (h1 : ∀ (v5 : Int), I1 v5 → garmentref20_Check_V1 listappend r0 I0 M0 I1 M1 v5) : ∀ (x : Int), I1 x → loopQ Tryz.prog XS Tryz.f21 1 (int r0) [] (garmentref20_Check_S1 listappend x) := by
  intro x0 hx0
  refine loop_rule (fun (x : Int) => I1 x) (fun (x : Int) => M1 x) (fun (x : Int) => garmentref20_Check_S1 listappend x) x0 hx0 ?_
  intro v5 hx
  have h := h1 v5 hx
  clear hx hx0 x0
  have g_1 := (olen cEdge Tryz.prog 22 2 listappend (by kernel_rfl))
  by_cases c1 : v5 < ((listappend.length : Nat) : Int)
  · have h := h.1 c1
    obtain ⟨c2, c3, c4, c5, c6, c7, c8, h⟩ := h
    have g_2 := (abt (dec_t c1))
    have g_3 := (oidx cEdge c2)
    have g_4 := (oadd Tryz.prog 3 (wi64 c3))
    have e_5 := (ac g_2 (ac g_3 (ac g_4 (ac g_1 (ac (orem Tryz.prog 3 .i64 (v5 + 1) ((listappend.length : Nat) : Int) c4) (ac (oidx cEdge c5) (ac (olen cSpot Tryz.prog 24 2 ((ai listappend v5).line) (by kernel_rfl)) (ac (osub Tryz.prog 3 (wi64 c6)) (ac (oidx cSpot c7) (oidx cSpot c8))))))))))
    by_cases c9 : (ai ((ai listappend v5).line) (((((ai listappend v5).line).length : Nat) : Int) - 1)) = (ai ((ai listappend ((v5 + 1).tmod ((listappend.length : Nat) : Int))).line) 0)
    · have h := h.1 c9
      exact sb (ts := [0, 5]) (ids := []) (d := 0) (s0 := ⟨[(0, .sl 2 (listappend.map cEdge)), (5, int (v5 + 1))], [], 0⟩) (ac g_1 (ac e_5 (ac (abf (not_f (sSpot_t c9))) g_4))) (by kernel_rfl) (by kernel_rfl) rfl (v5 + 1) h.1 h.2 (Weak.anew [] (by rfl) (wt_cons rfl wk_sl (wt_cons rfl wk_sc wt_nil)) wm_nil)
    · have h := h.2 c9
      rw [h]
      exact sr (ids := []) (vs := [int 11]) (mem := []) (ac g_1 (ac e_5 (abt (not_t (sSpot_f c9))))) (by kernel_rfl) (by kernel_rfl) (rts_sc rfl)
  · have h := h.2 c1
    obtain ⟨vertices1, c2, check2, c3, h⟩ := h
    have g_6 := (abf (dec_f c1))
    rw [h]
    exact sr (ids := []) (vs := [int check2]) (mem := []) (ac g_1 (ac g_6 (ac (ocs c2) (ocl [0] [(0, .row 2 (vertices1.map cSpot))] [.own 0 0 ((vertices1.map cSpot).length)] (as_cons (at_row (List.length_map ..) rfl) as_nil) c3)))) (by kernel_rfl) (by kernel_rfl) (rts_sc rfl)
theorem garmentref20_Check_W0 (listappend : List Edge) (r0 : Int) (I0 : Int → Prop) (M0 : Int → Nat) (I1 : Int → Prop) (M1 : Int → Nat) (h0 : ∀ (v3 : Int), I0 v3 → garmentref20_Check_V0 listappend r0 I0 M0 I1 M1 v3) (h1 : ∀ (v5 : Int), I1 v5 → garmentref20_Check_V1 listappend r0 I0 M0 I1 M1 v5) : ∀ (x : Int), I0 x → loopQ Tryz.prog XS Tryz.f21 0 (int r0) [] (garmentref20_Check_S0 listappend x) := by
  intro x0 hx0
  refine loop_rule (fun (x : Int) => I0 x) (fun (x : Int) => M0 x) (fun (x : Int) => garmentref20_Check_S0 listappend x) x0 hx0 ?_
  intro v3 hx
  have h := h0 v3 hx
  clear hx hx0 x0
  have g_7 := (olen cEdge Tryz.prog 22 2 listappend (by kernel_rfl))
  by_cases c1 : v3 < ((listappend.length : Nat) : Int)
  · have h := h.1 c1
    obtain ⟨c2, name1, c3, h⟩ := h
    have g_8 := (abt (dec_t c1))
    have g_9 := (oidx cEdge c2)
    have e_10 := (ac g_8 (ac g_9 (ocs c3)))
    rcases Bool.eq_false_or_eq_true name1 with c4 | c4
    · have h := h.1 c4
      obtain ⟨named2, c5, h⟩ := h
      have e_11 := (ac (abf (not_f c4)) (ac g_9 (ocs c5)))
      rcases Bool.eq_false_or_eq_true named2 with c6 | c6
      · have h := h.1 c6
        rw [h]
        exact sr (ids := []) (vs := [int 7]) (mem := []) (ac g_7 (ac e_10 (ac e_11 (abt c6)))) (by kernel_rfl) (by kernel_rfl) (rts_sc rfl)
      · have h := h.2 c6
        obtain ⟨check3, c7, h⟩ := h
        have e_12 := (ac (abf c6) (ac g_9 (ocs c7)))
        by_cases c8 : check3 = 0
        · have h := h.1 c8
          obtain ⟨c9, h⟩ := h
          exact sb (ts := [0, 3]) (ids := []) (d := 0) (s0 := ⟨[(0, .sl 2 (listappend.map cEdge)), (3, int (v3 + 1))], [], 0⟩) (ac g_7 (ac e_10 (ac e_11 (ac e_12 (ac (abf (bne_f c8)) (oadd Tryz.prog 3 (wi64 c9))))))) (by kernel_rfl) (by kernel_rfl) rfl (v3 + 1) h.1 h.2 (Weak.anew [] (by rfl) (wt_cons rfl wk_sl (wt_cons rfl wk_sc wt_nil)) wm_nil)
        · have h := h.2 c8
          rw [h]
          exact sr (ids := []) (vs := [int check3]) (mem := []) (ac g_7 (ac e_10 (ac e_11 (ac e_12 (abt (bne_t c8)))))) (by kernel_rfl) (by kernel_rfl) (rts_sc rfl)
    · have h := h.2 c4
      rw [h]
      exact sr (ids := []) (vs := [int 1]) (mem := []) (ac g_7 (ac e_10 (abt (not_t c4)))) (by kernel_rfl) (by kernel_rfl) (rts_sc rfl)
  · have h := h.2 c1
    have g_13 := (abf (dec_f c1))
    exact sl (ts := [0, 5]) (ids := []) (d := 1) (s0 := ⟨[(0, .sl 2 (listappend.map cEdge)), (5, int 0)], [], 0⟩) (ac g_7 g_13) (by kernel_rfl) (by kernel_rfl) (Weak.anew [] (by rfl) (wt_cons rfl wk_sl (wt_cons rfl wk_sc wt_nil)) wm_nil) (garmentref20_Check_W1 listappend r0 I0 M0 I1 M1 h0 h1 0 h)
theorem garmentref20_Check_W (listappend : List Edge) (r0 : Int) (I0 : Int → Prop) (M0 : Int → Nat) (I1 : Int → Prop) (M1 : Int → Nat) (h : garmentref20_Check_V listappend r0 I0 M0 I1 M1) (h0 : ∀ (v3 : Int), I0 v3 → garmentref20_Check_V0 listappend r0 I0 M0 I1 M1 v3) (h1 : ∀ (v5 : Int), I1 v5 → garmentref20_Check_V1 listappend r0 I0 M0 I1 M1 v5) : Ret Tryz.prog XS 21 [.sl 2 (listappend.map cEdge)] (int r0) := by
  refine fn_rule Tryz.func21 (by kernel_rfl) (by kernel_rfl) (by kernel_rfl) (by kernel_rfl) ?_
  have g_14 := (olen cEdge Tryz.prog 22 2 listappend (by kernel_rfl))
  by_cases c1 : ((listappend.length : Nat) : Int) > 16
  · have h := h.1 c1
    have g_15 := (abt (dec_t c1))
    rw [h]
    exact sr (ids := []) (vs := [int 5]) (mem := []) (ac g_14 g_15) (by kernel_rfl) (by kernel_rfl) (rts_sc rfl)
  · have h := h.2 c1
    have g_16 := (abf (dec_f c1))
    have e_17 := (ac g_16 g_14)
    by_cases c2 : ((listappend.length : Nat) : Int) < 2
    · have h := h.1 c2
      rw [h]
      exact sr (ids := []) (vs := [int 11]) (mem := []) (ac g_14 (ac e_17 (abt (dec_t c2)))) (by kernel_rfl) (by kernel_rfl) (rts_sc rfl)
    · have h := h.2 c2
      exact sl (ts := [0, 3]) (ids := []) (d := 0) (s0 := ⟨[(0, .sl 2 (listappend.map cEdge)), (3, int 0)], [], 0⟩) (ac g_14 (ac e_17 (abf (dec_f c2)))) (by kernel_rfl) (by kernel_rfl) (Weak.anew [] (by rfl) (wt_cons rfl wk_sl (wt_cons rfl wk_sc wt_nil)) wm_nil) (garmentref20_Check_W0 listappend r0 I0 M0 I1 M1 h0 h1 0 h)

-- garmentref17.Name
def garmentref17_Name_S0 (s0 : ByteArray) (i3 : Int) : AS := ⟨[(0, str s0), (3, int i3)], [], 0⟩
abbrev garmentref17_Name_V (s0 : ByteArray) (r0 : Bool) (I0 : Int → Prop) (M0 : Int → Nat) : Prop := ((s0 = ({ data := #[] } : ByteArray) → r0 = false) ∧ (¬ (s0 = ({ data := #[] } : ByteArray)) → ((((s0.size : Nat) : Int) > 24 → r0 = false) ∧ (¬ (((s0.size : Nat) : Int) > 24) → ((s0 = ({ data := #[109, 105, 110] } : ByteArray) → r0 = false) ∧ (¬ (s0 = ({ data := #[109, 105, 110] } : ByteArray)) → ((s0 = ({ data := #[109, 97, 120] } : ByteArray) → r0 = false) ∧ (¬ (s0 = ({ data := #[109, 97, 120] } : ByteArray)) → (Idx 0 s0.size) ∧ (((bt s0 0) < 97 → r0 = false) ∧ (¬ ((bt s0 0) < 97) → (((bt s0 0) > 122 → r0 = false) ∧ (¬ ((bt s0 0) > 122) → I0 0))))))))))))
abbrev garmentref17_Name_V0 (s0 : ByteArray) (r0 : Bool) (I0 : Int → Prop) (M0 : Int → Nat) (i3 : Int) : Prop := ((i3 < ((s0.size : Nat) : Int) → (Idx i3 s0.size) ∧ (∃ (digit1 : Bool), Ret Tryz.prog XS 52 [.sc (.int .u8 (bt s0 i3))] (boo digit1) ∧ ((digit1 = true → (InR (i3 + 1)) ∧ I0 (i3 + 1) ∧ M0 (i3 + 1) < M0 i3) ∧ (digit1 = false → (((bt s0 i3) = 95 → (InR (i3 + 1)) ∧ I0 (i3 + 1) ∧ M0 (i3 + 1) < M0 i3) ∧ (¬ ((bt s0 i3) = 95) → (((bt s0 i3) < 97 → r0 = false) ∧ (¬ ((bt s0 i3) < 97) → (((bt s0 i3) > 122 → r0 = false) ∧ (¬ ((bt s0 i3) > 122) → (InR (i3 + 1)) ∧ I0 (i3 + 1) ∧ M0 (i3 + 1) < M0 i3)))))))))) ∧ (¬ (i3 < ((s0.size : Nat) : Int)) → r0 = true))
theorem garmentref17_Name_W0 (s0 : ByteArray) (r0 : Bool) (I0 : Int → Prop) (M0 : Int → Nat) (h0 : ∀ (i3 : Int), I0 i3 → garmentref17_Name_V0 s0 r0 I0 M0 i3) : ∀ (x : Int), I0 x → loopQ Tryz.prog XS Tryz.f35 0 (boo r0) [] (garmentref17_Name_S0 s0 x) := by
  intro x0 hx0
  refine loop_rule (fun (x : Int) => I0 x) (fun (x : Int) => M0 x) (fun (x : Int) => garmentref17_Name_S0 s0 x) x0 hx0 ?_
  intro i3 hx
  have h := h0 i3 hx
  clear hx hx0 x0
  have g_1 := (olens Tryz.prog 9 s0 (by kernel_rfl))
  by_cases c1 : i3 < ((s0.size : Nat) : Int)
  · have h := h.1 c1
    obtain ⟨c2, digit1, c3, h⟩ := h
    have e_2 := (ac (abt (dec_t c1)) (ac (obtt c2) (ocs c3)))
    rcases Bool.eq_false_or_eq_true digit1 with c4 | c4
    · have h := h.1 c4
      obtain ⟨c5, h⟩ := h
      have g_3 := (abf (not_f c4))
      exact sb (ts := [0, 3]) (ids := []) (d := 0) (s0 := ⟨[(0, str s0), (3, int (i3 + 1))], [], 0⟩) (ac g_1 (ac e_2 (ac g_3 (ac g_3 (ac g_3 (ac g_3 (ac g_3 (ac abff (ac abff (ac abff (ac abff (ac abff (ac abff (ac abff (ac abff (oadd Tryz.prog 3 (wi64 c5))))))))))))))))) (by kernel_rfl) (by kernel_rfl) rfl (i3 + 1) h.1 h.2 (Weak.anew [] (by rfl) (wt_cons rfl wk_sc (wt_cons rfl wk_sc wt_nil)) wm_nil)
    · have h := h.2 c4
      have g_4 := (abt (not_t c4))
      have e_5 := (ac g_4 (ac g_4 (ac g_4 (ac (obtt c2) (ac g_4 g_4)))))
      by_cases c5 : (bt s0 i3) = 95
      · have h := h.1 c5
        obtain ⟨c6, h⟩ := h
        have g_6 := (abf (bne_f c5))
        exact sb (ts := [0, 3]) (ids := []) (d := 0) (s0 := ⟨[(0, str s0), (3, int (i3 + 1))], [], 0⟩) (ac g_1 (ac e_2 (ac e_5 (ac g_6 (ac g_6 (ac g_6 (ac g_6 (ac g_6 (ac g_6 (ac g_6 (ac abff (oadd Tryz.prog 3 (wi64 c6))))))))))))) (by kernel_rfl) (by kernel_rfl) rfl (i3 + 1) h.1 h.2 (Weak.anew [] (by rfl) (wt_cons rfl wk_sc (wt_cons rfl wk_sc wt_nil)) wm_nil)
      · have h := h.2 c5
        have g_7 := (abt (bne_t c5))
        have e_8 := (ac g_7 (ac g_7 (ac g_7 (ac (obtt c2) (ac g_7 g_7)))))
        by_cases c6 : (bt s0 i3) < 97
        · have h := h.1 c6
          have g_9 := (abt (dec_t c6))
          rw [h]
          exact sr (ids := []) (vs := [boo false]) (mem := []) (ac g_1 (ac e_2 (ac e_5 (ac e_8 (ac g_9 (ac g_9 (ac g_9 (ac g_9 (ac g_7 (ac g_9 (ac g_7 abtt))))))))))) (by kernel_rfl) (by kernel_rfl) (rts_sc rfl)
        · have h := h.2 c6
          have g_10 := (abf (dec_f c6))
          have e_11 := (ac g_10 (ac g_10 (ac g_10 (ac (obtt c2) (ac g_10 (ac g_7 (ac g_10 g_7)))))))
          by_cases c7 : (bt s0 i3) > 122
          · have h := h.1 c7
            have g_12 := (abt (dec_t c7))
            rw [h]
            exact sr (ids := []) (vs := [boo false]) (mem := []) (ac g_1 (ac e_2 (ac e_5 (ac e_8 (ac e_11 g_12))))) (by kernel_rfl) (by kernel_rfl) (rts_sc rfl)
          · have h := h.2 c7
            obtain ⟨c8, h⟩ := h
            have g_13 := (abf (dec_f c7))
            exact sb (ts := [0, 3]) (ids := []) (d := 0) (s0 := ⟨[(0, str s0), (3, int (i3 + 1))], [], 0⟩) (ac g_1 (ac e_2 (ac e_5 (ac e_8 (ac e_11 (ac g_13 (oadd Tryz.prog 3 (wi64 c8)))))))) (by kernel_rfl) (by kernel_rfl) rfl (i3 + 1) h.1 h.2 (Weak.anew [] (by rfl) (wt_cons rfl wk_sc (wt_cons rfl wk_sc wt_nil)) wm_nil)
  · have h := h.2 c1
    rw [h]
    exact sr (ids := []) (vs := [boo true]) (mem := []) (ac g_1 (abf (dec_f c1))) (by kernel_rfl) (by kernel_rfl) (rts_sc rfl)
theorem garmentref17_Name_W (s0 : ByteArray) (r0 : Bool) (I0 : Int → Prop) (M0 : Int → Nat) (h : garmentref17_Name_V s0 r0 I0 M0) (h0 : ∀ (i3 : Int), I0 i3 → garmentref17_Name_V0 s0 r0 I0 M0 i3) : Ret Tryz.prog XS 35 [str s0] (boo r0) := by
  refine fn_rule Tryz.func35 (by kernel_rfl) (by kernel_rfl) (by kernel_rfl) (by kernel_rfl) ?_
  by_cases c1 : s0 = ({ data := #[] } : ByteArray)
  · have h := h.1 c1
    have g_14 := (abt (streq_t c1))
    rw [h]
    exact sr (ids := []) (vs := [boo false]) (mem := []) (ac g_14 (ac g_14 (ac g_14 (ac g_14 (ac abtt (ac abtt (ac abtt (ac abtt (ac abtt (ac abtt (ac abtt (ac abtt (ac abtt (ac abtt (ac abtt (ac abtt (ac abtt (ac abtt abtt)))))))))))))))))) (by kernel_rfl) (by kernel_rfl) (rts_sc rfl)
  · have h := h.2 c1
    have g_15 := (abf (streq_f c1))
    have g_16 := (olens Tryz.prog 9 s0 (by kernel_rfl))
    have e_17 := (ac g_15 (ac g_15 (ac g_16 (ac g_15 g_15))))
    by_cases c2 : ((s0.size : Nat) : Int) > 24
    · have h := h.1 c2
      have g_18 := (abt (dec_t c2))
      rw [h]
      exact sr (ids := []) (vs := [boo false]) (mem := []) (ac e_17 (ac g_18 (ac g_18 (ac g_18 (ac abtt (ac abtt (ac abtt (ac abtt (ac abtt (ac abtt (ac abtt (ac abtt (ac abtt (ac abtt (ac abtt abtt))))))))))))))) (by kernel_rfl) (by kernel_rfl) (rts_sc rfl)
    · have h := h.2 c2
      have g_19 := (abf (dec_f c2))
      have e_20 := (ac g_19 (ac g_19 g_19))
      by_cases c3 : s0 = ({ data := #[109, 105, 110] } : ByteArray)
      · have h := h.1 c3
        have g_21 := (abt (streq_t c3))
        rw [h]
        exact sr (ids := []) (vs := [boo false]) (mem := []) (ac e_17 (ac e_20 (ac g_21 (ac g_21 (ac g_21 (ac abtt (ac abtt (ac abtt (ac abtt (ac abtt (ac abtt (ac abtt (ac abtt abtt))))))))))))) (by kernel_rfl) (by kernel_rfl) (rts_sc rfl)
      · have h := h.2 c3
        have g_22 := (abf (streq_f c3))
        have e_23 := (ac g_22 (ac g_22 g_22))
        by_cases c4 : s0 = ({ data := #[109, 97, 120] } : ByteArray)
        · have h := h.1 c4
          have g_24 := (abt (streq_t c4))
          rw [h]
          exact sr (ids := []) (vs := [boo false]) (mem := []) (ac e_17 (ac e_20 (ac e_23 (ac g_24 (ac g_24 (ac g_24 (ac g_24 (ac abtt (ac abtt (ac abtt (ac abtt abtt))))))))))) (by kernel_rfl) (by kernel_rfl) (rts_sc rfl)
        · have h := h.2 c4
          obtain ⟨c5, h⟩ := h
          have g_25 := (abf (streq_f c4))
          have e_26 := (ac g_25 (ac g_25 (ac (obtt c5) (ac g_25 g_25))))
          by_cases c6 : (bt s0 0) < 97
          · have h := h.1 c6
            have g_27 := (abt (dec_t c6))
            rw [h]
            exact sr (ids := []) (vs := [boo false]) (mem := []) (ac e_17 (ac e_20 (ac e_23 (ac e_26 (ac g_27 (ac g_27 (ac g_27 (ac g_27 abtt)))))))) (by kernel_rfl) (by kernel_rfl) (rts_sc rfl)
          · have h := h.2 c6
            have g_28 := (abf (dec_f c6))
            have e_29 := (ac g_28 (ac g_28 (ac (obtt c5) (ac g_28 g_28))))
            by_cases c7 : (bt s0 0) > 122
            · have h := h.1 c7
              have g_30 := (abt (dec_t c7))
              rw [h]
              exact sr (ids := []) (vs := [boo false]) (mem := []) (ac e_17 (ac e_20 (ac e_23 (ac e_26 (ac e_29 g_30))))) (by kernel_rfl) (by kernel_rfl) (rts_sc rfl)
            · have h := h.2 c7
              have g_31 := (abf (dec_f c7))
              exact sl (ts := [0, 3]) (ids := []) (d := 0) (s0 := ⟨[(0, str s0), (3, int 0)], [], 0⟩) (ac e_17 (ac e_20 (ac e_23 (ac e_26 (ac e_29 g_31))))) (by kernel_rfl) (by kernel_rfl) (Weak.anew [] (by rfl) (wt_cons rfl wk_sc (wt_cons rfl wk_sc wt_nil)) wm_nil) (garmentref17_Name_W0 s0 r0 I0 M0 h0 0 h)

-- garmentref17.digit
abbrev garmentref17_digit_V (b : Int) (r0 : Bool) : Prop := ((b ≥ 48 → r0 = (decide (b ≤ 57))) ∧ (¬ (b ≥ 48) → r0 = false))
theorem garmentref17_digit_W (b : Int) (r0 : Bool) (h : garmentref17_digit_V b r0) : Ret Tryz.prog XS 52 [.sc (.int .u8 b)] (boo r0) := by
  refine fn_rule Tryz.func52 (by kernel_rfl) (by kernel_rfl) (by kernel_rfl) (by kernel_rfl) ?_
  by_cases c1 : b ≥ 48
  · have h := h.1 c1
    have g_1 := (abt (dec_t c1))
    rw [h]
    exact sr (ids := []) (vs := [boo (decide (b ≤ 57))]) (mem := []) (ac g_1 (ac g_1 g_1)) (by kernel_rfl) (by kernel_rfl) (rts_sc rfl)
  · have h := h.2 c1
    have g_2 := (abf (dec_f c1))
    rw [h]
    exact sr (ids := []) (vs := [boo false]) (mem := []) (ac g_2 (ac g_2 g_2)) (by kernel_rfl) (by kernel_rfl) (rts_sc rfl)

-- garmentref20.named
def garmentref20_named_S0 (l : List Edge) (i : Int) (name : ByteArray) (k7 : Int) : AS := ⟨[(0, .sl 2 (l.map cEdge)), (1, int i), (2, str name), (7, int k7)], [], 0⟩
abbrev garmentref20_named_V (l : List Edge) (i : Int) (name : ByteArray) (r0 : Bool) (I0 : Int → Prop) (M0 : Int → Nat) : Prop := I0 0
abbrev garmentref20_named_V0 (l : List Edge) (i : Int) (name : ByteArray) (r0 : Bool) (I0 : Int → Prop) (M0 : Int → Nat) (k7 : Int) : Prop := ((k7 < i → (Idx k7 l.length) ∧ (((ai l k7).name = name → r0 = true) ∧ (¬ ((ai l k7).name = name) → (InR (k7 + 1)) ∧ I0 (k7 + 1) ∧ M0 (k7 + 1) < M0 k7))) ∧ (¬ (k7 < i) → r0 = false))
theorem garmentref20_named_W0 (l : List Edge) (i : Int) (name : ByteArray) (r0 : Bool) (I0 : Int → Prop) (M0 : Int → Nat) (h0 : ∀ (k7 : Int), I0 k7 → garmentref20_named_V0 l i name r0 I0 M0 k7) : ∀ (x : Int), I0 x → loopQ Tryz.prog XS Tryz.f36 0 (boo r0) [] (garmentref20_named_S0 l i name x) := by
  intro x0 hx0
  refine loop_rule (fun (x : Int) => I0 x) (fun (x : Int) => M0 x) (fun (x : Int) => garmentref20_named_S0 l i name x) x0 hx0 ?_
  intro k7 hx
  have h := h0 k7 hx
  clear hx hx0 x0
  by_cases c1 : k7 < i
  · have h := h.1 c1
    obtain ⟨c2, h⟩ := h
    have e_1 := (ac (abt (dec_t c1)) (oidx cEdge c2))
    by_cases c3 : (ai l k7).name = name
    · have h := h.1 c3
      rw [h]
      exact sr (ids := []) (vs := [boo true]) (mem := []) (ac e_1 (abt (streq_t c3))) (by kernel_rfl) (by kernel_rfl) (rts_sc rfl)
    · have h := h.2 c3
      obtain ⟨c4, h⟩ := h
      exact sb (ts := [0, 1, 2, 7]) (ids := []) (d := 0) (s0 := ⟨[(0, .sl 2 (l.map cEdge)), (1, int i), (2, str name), (7, int (k7 + 1))], [], 0⟩) (ac e_1 (ac (abf (streq_f c3)) (oadd Tryz.prog 3 (wi64 c4)))) (by kernel_rfl) (by kernel_rfl) rfl (k7 + 1) h.1 h.2 (Weak.anew [] (by rfl) (wt_cons rfl wk_sl (wt_cons rfl wk_sc (wt_cons rfl wk_sc (wt_cons rfl wk_sc wt_nil)))) wm_nil)
  · have h := h.2 c1
    rw [h]
    exact sr (ids := []) (vs := [boo false]) (mem := []) (abf (dec_f c1)) (by kernel_rfl) (by kernel_rfl) (rts_sc rfl)
theorem garmentref20_named_W (l : List Edge) (i : Int) (name : ByteArray) (r0 : Bool) (I0 : Int → Prop) (M0 : Int → Nat) (h : garmentref20_named_V l i name r0 I0 M0) (h0 : ∀ (k7 : Int), I0 k7 → garmentref20_named_V0 l i name r0 I0 M0 k7) : Ret Tryz.prog XS 36 [.sl 2 (l.map cEdge), int i, str name] (boo r0) := by
  refine fn_rule Tryz.func36 (by kernel_rfl) (by kernel_rfl) (by kernel_rfl) (by kernel_rfl) ?_
  exact sl (ts := [0, 1, 2, 7]) (ids := []) (d := 0) (s0 := ⟨[(0, .sl 2 (l.map cEdge)), (1, int i), (2, str name), (7, int 0)], [], 0⟩) az (by kernel_rfl) (by kernel_rfl) (Weak.anew [] (by rfl) (wt_cons rfl wk_sl (wt_cons rfl wk_sc (wt_cons rfl wk_sc (wt_cons rfl wk_sc wt_nil)))) wm_nil) (garmentref20_named_W0 l i name r0 I0 M0 h0 0 h)

-- garmentref10.Check
def garmentref10_Check_S0 (l : List Spot) (i3 : Int) : AS := ⟨[(0, .sl 2 (l.map cSpot)), (3, int i3)], [], 0⟩
abbrev garmentref10_Check_V (l : List Spot) (r0 : Int) (I0 : Int → Prop) (M0 : Int → Nat) : Prop := ((((l.length : Nat) : Int) > 40 → r0 = 5) ∧ (¬ (((l.length : Nat) : Int) > 40) → ((((l.length : Nat) : Int) < 2 → r0 = 11) ∧ (¬ (((l.length : Nat) : Int) < 2) → (∃ (far1 : Bool), Ret Tryz.prog XS 53 [.sl 2 (l.map cSpot)] (boo far1) ∧ ((far1 = true → r0 = 3) ∧ (far1 = false → I0 1)))))))
abbrev garmentref10_Check_V0 (l : List Spot) (r0 : Int) (I0 : Int → Prop) (M0 : Int → Nat) (i3 : Int) : Prop := ((i3 < ((l.length : Nat) : Int) → (Idx i3 l.length) ∧ (InR (i3 - 1)) ∧ (Idx (i3 - 1) l.length) ∧ (((ai l i3) = (ai l (i3 - 1)) → r0 = 11) ∧ (¬ ((ai l i3) = (ai l (i3 - 1))) → (InR (i3 + 1)) ∧ I0 (i3 + 1) ∧ M0 (i3 + 1) < M0 i3))) ∧ (¬ (i3 < ((l.length : Nat) : Int)) → r0 = 0))
theorem garmentref10_Check_W0 (l : List Spot) (r0 : Int) (I0 : Int → Prop) (M0 : Int → Nat) (h0 : ∀ (i3 : Int), I0 i3 → garmentref10_Check_V0 l r0 I0 M0 i3) : ∀ (x : Int), I0 x → loopQ Tryz.prog XS Tryz.f37 0 (int r0) [] (garmentref10_Check_S0 l x) := by
  intro x0 hx0
  refine loop_rule (fun (x : Int) => I0 x) (fun (x : Int) => M0 x) (fun (x : Int) => garmentref10_Check_S0 l x) x0 hx0 ?_
  intro i3 hx
  have h := h0 i3 hx
  clear hx hx0 x0
  have g_1 := (olen cSpot Tryz.prog 24 2 l (by kernel_rfl))
  by_cases c1 : i3 < ((l.length : Nat) : Int)
  · have h := h.1 c1
    obtain ⟨c2, c3, c4, h⟩ := h
    have g_2 := (abt (dec_t c1))
    have e_3 := (ac g_2 (ac (oidx cSpot c2) (ac (osub Tryz.prog 3 (wi64 c3)) (oidx cSpot c4))))
    by_cases c5 : (ai l i3) = (ai l (i3 - 1))
    · have h := h.1 c5
      rw [h]
      exact sr (ids := []) (vs := [int 11]) (mem := []) (ac g_1 (ac e_3 (abt (sSpot_t c5)))) (by kernel_rfl) (by kernel_rfl) (rts_sc rfl)
    · have h := h.2 c5
      obtain ⟨c6, h⟩ := h
      exact sb (ts := [0, 3]) (ids := []) (d := 0) (s0 := ⟨[(0, .sl 2 (l.map cSpot)), (3, int (i3 + 1))], [], 0⟩) (ac g_1 (ac e_3 (ac (abf (sSpot_f c5)) (oadd Tryz.prog 3 (wi64 c6))))) (by kernel_rfl) (by kernel_rfl) rfl (i3 + 1) h.1 h.2 (Weak.anew [] (by rfl) (wt_cons rfl wk_sl (wt_cons rfl wk_sc wt_nil)) wm_nil)
  · have h := h.2 c1
    have g_4 := (abf (dec_f c1))
    rw [h]
    exact sr (ids := []) (vs := [int 0]) (mem := []) (ac g_1 g_4) (by kernel_rfl) (by kernel_rfl) (rts_sc rfl)
theorem garmentref10_Check_W (l : List Spot) (r0 : Int) (I0 : Int → Prop) (M0 : Int → Nat) (h : garmentref10_Check_V l r0 I0 M0) (h0 : ∀ (i3 : Int), I0 i3 → garmentref10_Check_V0 l r0 I0 M0 i3) : Ret Tryz.prog XS 37 [.sl 2 (l.map cSpot)] (int r0) := by
  refine fn_rule Tryz.func37 (by kernel_rfl) (by kernel_rfl) (by kernel_rfl) (by kernel_rfl) ?_
  have g_5 := (olen cSpot Tryz.prog 24 2 l (by kernel_rfl))
  by_cases c1 : ((l.length : Nat) : Int) > 40
  · have h := h.1 c1
    have g_6 := (abt (dec_t c1))
    rw [h]
    exact sr (ids := []) (vs := [int 5]) (mem := []) (ac g_5 g_6) (by kernel_rfl) (by kernel_rfl) (rts_sc rfl)
  · have h := h.2 c1
    have g_7 := (abf (dec_f c1))
    have e_8 := (ac g_7 g_5)
    by_cases c2 : ((l.length : Nat) : Int) < 2
    · have h := h.1 c2
      rw [h]
      exact sr (ids := []) (vs := [int 11]) (mem := []) (ac g_5 (ac e_8 (abt (dec_t c2)))) (by kernel_rfl) (by kernel_rfl) (rts_sc rfl)
    · have h := h.2 c2
      obtain ⟨far1, c3, h⟩ := h
      have e_9 := (ac (abf (dec_f c2)) (ocs c3))
      rcases Bool.eq_false_or_eq_true far1 with c4 | c4
      · have h := h.1 c4
        rw [h]
        exact sr (ids := []) (vs := [int 3]) (mem := []) (ac g_5 (ac e_8 (ac e_9 (abt c4)))) (by kernel_rfl) (by kernel_rfl) (rts_sc rfl)
      · have h := h.2 c4
        exact sl (ts := [0, 3]) (ids := []) (d := 0) (s0 := ⟨[(0, .sl 2 (l.map cSpot)), (3, int 1)], [], 0⟩) (ac g_5 (ac e_8 (ac e_9 (abf c4)))) (by kernel_rfl) (by kernel_rfl) (Weak.anew [] (by rfl) (wt_cons rfl wk_sl (wt_cons rfl wk_sc wt_nil)) wm_nil) (garmentref10_Check_W0 l r0 I0 M0 h0 1 h)

-- garmentref10.Far
def garmentref10_Far_S0 (l : List Spot) (i3 : Int) : AS := ⟨[(0, .sl 2 (l.map cSpot)), (3, int i3)], [], 0⟩
abbrev garmentref10_Far_V (l : List Spot) (r0 : Bool) (I0 : Int → Prop) (M0 : Int → Nat) : Prop := I0 0
abbrev garmentref10_Far_V0 (l : List Spot) (r0 : Bool) (I0 : Int → Prop) (M0 : Int → Nat) (i3 : Int) : Prop := ((i3 < ((l.length : Nat) : Int) → (Idx i3 l.length) ∧ (∃ (far1 : Bool), Ret Tryz.prog XS 63 [int ((ai l i3).x)] (boo far1) ∧ ((far1 = true → r0 = true) ∧ (far1 = false → (∃ (far2 : Bool), Ret Tryz.prog XS 63 [int ((ai l i3).y)] (boo far2) ∧ ((far2 = true → r0 = true) ∧ (far2 = false → (InR (i3 + 1)) ∧ I0 (i3 + 1) ∧ M0 (i3 + 1) < M0 i3))))))) ∧ (¬ (i3 < ((l.length : Nat) : Int)) → r0 = false))
theorem garmentref10_Far_W0 (l : List Spot) (r0 : Bool) (I0 : Int → Prop) (M0 : Int → Nat) (h0 : ∀ (i3 : Int), I0 i3 → garmentref10_Far_V0 l r0 I0 M0 i3) : ∀ (x : Int), I0 x → loopQ Tryz.prog XS Tryz.f53 0 (boo r0) [] (garmentref10_Far_S0 l x) := by
  intro x0 hx0
  refine loop_rule (fun (x : Int) => I0 x) (fun (x : Int) => M0 x) (fun (x : Int) => garmentref10_Far_S0 l x) x0 hx0 ?_
  intro i3 hx
  have h := h0 i3 hx
  clear hx hx0 x0
  have e_1 := (olen cSpot Tryz.prog 24 2 l (by kernel_rfl))
  by_cases c1 : i3 < ((l.length : Nat) : Int)
  · have h := h.1 c1
    obtain ⟨c2, far1, c3, h⟩ := h
    have g_2 := (oidx cSpot c2)
    have e_3 := (ac (abt (dec_t c1)) (ac g_2 (ocs c3)))
    rcases Bool.eq_false_or_eq_true far1 with c4 | c4
    · have h := h.1 c4
      rw [h]
      exact sr (ids := []) (vs := [boo true]) (mem := []) (ac e_1 (ac e_3 (ac (abt c4) (ac (abt c4) (ac (abt c4) (ac (abt c4) (ac (abt c4) (ac (abt c4) (ac (abt c4) abtt))))))))) (by kernel_rfl) (by kernel_rfl) (rts_sc rfl)
    · have h := h.2 c4
      obtain ⟨far2, c5, h⟩ := h
      have e_4 := (ac (abf c4) (ac (abf c4) (ac (abf c4) (ac g_2 (ac (abf c4) (ac (abf c4) (ac (abf c4) (ac (ocs c5) (abf c4)))))))))
      rcases Bool.eq_false_or_eq_true far2 with c6 | c6
      · have h := h.1 c6
        rw [h]
        exact sr (ids := []) (vs := [boo true]) (mem := []) (ac e_1 (ac e_3 (ac e_4 (abt c6)))) (by kernel_rfl) (by kernel_rfl) (rts_sc rfl)
      · have h := h.2 c6
        obtain ⟨c7, h⟩ := h
        exact sb (ts := [0, 3]) (ids := []) (d := 0) (s0 := ⟨[(0, .sl 2 (l.map cSpot)), (3, int (i3 + 1))], [], 0⟩) (ac e_1 (ac e_3 (ac e_4 (ac (abf c6) (oadd Tryz.prog 3 (wi64 c7)))))) (by kernel_rfl) (by kernel_rfl) rfl (i3 + 1) h.1 h.2 (Weak.anew [] (by rfl) (wt_cons rfl wk_sl (wt_cons rfl wk_sc wt_nil)) wm_nil)
  · have h := h.2 c1
    rw [h]
    exact sr (ids := []) (vs := [boo false]) (mem := []) (ac e_1 (abf (dec_f c1))) (by kernel_rfl) (by kernel_rfl) (rts_sc rfl)
theorem garmentref10_Far_W (l : List Spot) (r0 : Bool) (I0 : Int → Prop) (M0 : Int → Nat) (h : garmentref10_Far_V l r0 I0 M0) (h0 : ∀ (i3 : Int), I0 i3 → garmentref10_Far_V0 l r0 I0 M0 i3) : Ret Tryz.prog XS 53 [.sl 2 (l.map cSpot)] (boo r0) := by
  refine fn_rule Tryz.func53 (by kernel_rfl) (by kernel_rfl) (by kernel_rfl) (by kernel_rfl) ?_
  exact sl (ts := [0, 3]) (ids := []) (d := 0) (s0 := ⟨[(0, .sl 2 (l.map cSpot)), (3, int 0)], [], 0⟩) az (by kernel_rfl) (by kernel_rfl) (Weak.anew [] (by rfl) (wt_cons rfl wk_sl (wt_cons rfl wk_sc wt_nil)) wm_nil) (garmentref10_Far_W0 l r0 I0 M0 h0 0 h)

-- garmentref10.far
abbrev garmentref10_far_V (n : Int) (r0 : Bool) : Prop := ((n > 1048576 → r0 = true) ∧ (¬ (n > 1048576) → r0 = (decide (n < (-1048576)))))
theorem garmentref10_far_W (n : Int) (r0 : Bool) (h : garmentref10_far_V n r0) : Ret Tryz.prog XS 63 [int n] (boo r0) := by
  refine fn_rule Tryz.func63 (by kernel_rfl) (by kernel_rfl) (by kernel_rfl) (by kernel_rfl) ?_
  by_cases c1 : n > 1048576
  · have h := h.1 c1
    have g_1 := (abt (dec_t c1))
    rw [h]
    exact sr (ids := []) (vs := [boo true]) (mem := []) (ac g_1 (ac g_1 g_1)) (by kernel_rfl) (by kernel_rfl) (rts_sc rfl)
  · have h := h.2 c1
    have g_2 := (abf (dec_f c1))
    rw [h]
    exact sr (ids := []) (vs := [boo (decide (n < (-1048576)))]) (mem := []) (ac g_2 (ac g_2 g_2)) (by kernel_rfl) (by kernel_rfl) (rts_sc rfl)

end Go.Ab
end

section
namespace Go.Ab
open Go.Proofs
set_option maxRecDepth 100000
set_option linter.unusedVariables false
attribute [local irreducible] todoQ
-- garmentref20.Vertices
def garmentref20_Vertices_S0 (l : List Edge) (out3 : List Spot) (i4 : Int) : AS := ⟨[(0, .sl 2 (l.map cEdge)), (3, .own 0 0 out3.length), (4, int i4)], [(0, .row 2 (out3.map cSpot))], 1⟩
abbrev garmentref20_Vertices_V (l : List Edge) (r0 : List Spot) (I0 : (List Spot) → Int → Prop) (M0 : (List Spot) → Int → Nat) : Prop := I0 ([] : List Spot) 0
abbrev garmentref20_Vertices_V0 (l : List Edge) (r0 : List Spot) (I0 : (List Spot) → Int → Prop) (M0 : (List Spot) → Int → Nat) (out3 : List Spot) (i4 : Int) : Prop := ((i4 < ((l.length : Nat) : Int) → (Idx i4 l.length) ∧ ((((((ai l i4).line).length : Nat) : Int) > 0 → (InR (((((ai l i4).line).length : Nat) : Int) - 1)) ∧ (Slc 0 (((((ai l i4).line).length : Nat) : Int) - 1) ((ai l i4).line).length) ∧ (Cap 16 (out3 ++ (cut ((ai l i4).line) 0 (((((ai l i4).line).length : Nat) : Int) - 1))).length) ∧ (InR (i4 + 1)) ∧ I0 (out3 ++ (cut ((ai l i4).line) 0 (((((ai l i4).line).length : Nat) : Int) - 1))) (i4 + 1) ∧ M0 (out3 ++ (cut ((ai l i4).line) 0 (((((ai l i4).line).length : Nat) : Int) - 1))) (i4 + 1) < M0 out3 i4) ∧ (¬ (((((ai l i4).line).length : Nat) : Int) > 0) → (InR (i4 + 1)) ∧ I0 out3 (i4 + 1) ∧ M0 out3 (i4 + 1) < M0 out3 i4))) ∧ (¬ (i4 < ((l.length : Nat) : Int)) → r0 = out3))
theorem garmentref20_Vertices_W0 (l : List Edge) (r0 : List Spot) (I0 : (List Spot) → Int → Prop) (M0 : (List Spot) → Int → Nat) (h0 : ∀ (out3 : List Spot) (i4 : Int), I0 out3 i4 → garmentref20_Vertices_V0 l r0 I0 M0 out3 i4) : ∀ (x : (List Spot) × Int), I0 x.1 x.2 → loopQ Tryz.prog XS Tryz.f39 0 (.fr 2 (r0.map cSpot)) [] (garmentref20_Vertices_S0 l x.1 x.2) := by
  intro x0 hx0
  refine loop_rule (fun (x : (List Spot) × Int) => I0 x.1 x.2) (fun (x : (List Spot) × Int) => M0 x.1 x.2) (fun (x : (List Spot) × Int) => garmentref20_Vertices_S0 l x.1 x.2) x0 hx0 ?_
  rintro ⟨out3, i4⟩ hx
  have h := h0 out3 i4 hx
  clear hx hx0 x0
  have e_1 := (olen cEdge Tryz.prog 22 2 l (by kernel_rfl))
  by_cases c1 : i4 < ((l.length : Nat) : Int)
  · have h := h.1 c1
    obtain ⟨c2, h⟩ := h
    have g_2 := (oidx cEdge c2)
    have e_3 := (ac (abt (dec_t c1)) (ac g_2 (olen cSpot Tryz.prog 24 2 ((ai l i4).line) (by kernel_rfl))))
    by_cases c3 : ((((ai l i4).line).length : Nat) : Int) > 0
    · have h := h.1 c3
      obtain ⟨c4, c5, c6, c7, h⟩ := h
      exact sb (ts := [0, 3, 4]) (ids := [1]) (d := 0) (s0 := ⟨[(0, .sl 2 (l.map cEdge)), (3, .own 1 0 ((out3 ++ (cut ((ai l i4).line) 0 (((((ai l i4).line).length : Nat) : Int) - 1))).length)), (4, int (i4 + 1))], [(1, .row 2 ((out3 ++ (cut ((ai l i4).line) 0 (((((ai l i4).line).length : Nat) : Int) - 1))).map cSpot))], 2⟩) (ac e_1 (ac e_3 (ac (abt (dec_t c3)) (ac g_2 (ac (osub Tryz.prog 3 (wi64 c4)) (ac (ocut0 cSpot 2 c5) (ac (oapp cSpot (n := out3.length) rfl c6) (oadd Tryz.prog 3 (wi64 c7))))))))) (by kernel_rfl) (by kernel_rfl) rfl ((out3 ++ (cut ((ai l i4).line) 0 (((((ai l i4).line).length : Nat) : Int) - 1))), (i4 + 1)) h.1 h.2 (Weak.anew [(0, some 1)] (by rfl) (wt_cons rfl wk_sl (wt_cons rfl (wk_own rfl rfl) (wt_cons rfl wk_sc wt_nil))) (wm_row rfl rfl wm_nil))
    · have h := h.2 c3
      obtain ⟨c4, h⟩ := h
      exact sb (ts := [0, 3, 4]) (ids := [0]) (d := 0) (s0 := ⟨[(0, .sl 2 (l.map cEdge)), (3, .own 0 0 out3.length), (4, int (i4 + 1))], [(0, .row 2 (out3.map cSpot))], 1⟩) (ac e_1 (ac e_3 (ac (abf (dec_f c3)) (oadd Tryz.prog 3 (wi64 c4))))) (by kernel_rfl) (by kernel_rfl) rfl (out3, (i4 + 1)) h.1 h.2 (Weak.anew [(0, some 0)] (by rfl) (wt_cons rfl wk_sl (wt_cons rfl (wk_own rfl rfl) (wt_cons rfl wk_sc wt_nil))) (wm_row rfl rfl wm_nil))
  · have h := h.2 c1
    rw [h]
    exact sr (ids := [0]) (vs := [.own 0 0 out3.length]) (mem := [(0, .row 2 (out3.map cSpot))]) (ac e_1 (abf (dec_f c1))) (by kernel_rfl) (by kernel_rfl) (rts_own rfl rfl rfl rfl)
theorem garmentref20_Vertices_W (l : List Edge) (r0 : List Spot) (I0 : (List Spot) → Int → Prop) (M0 : (List Spot) → Int → Nat) (h : garmentref20_Vertices_V l r0 I0 M0) (h0 : ∀ (out3 : List Spot) (i4 : Int), I0 out3 i4 → garmentref20_Vertices_V0 l r0 I0 M0 out3 i4) : Ret Tryz.prog XS 39 [.sl 2 (l.map cEdge)] (.fr 2 (r0.map cSpot)) := by
  refine fn_rule Tryz.func39 (by kernel_rfl) (by kernel_rfl) (by kernel_rfl) (by kernel_rfl) ?_
  exact sl (ts := [0, 3, 4]) (ids := []) (d := 0) (s0 := ⟨[(0, .sl 2 (l.map cEdge)), (3, .nil), (4, int 0)], [], 0⟩) az (by kernel_rfl) (by kernel_rfl) (Weak.anew [(0, none)] (by rfl) (wt_cons rfl wk_sl (wt_cons rfl (wk_nilown rfl) (wt_cons rfl wk_sc wt_nil))) (wm_none rfl wm_nil)) (garmentref20_Vertices_W0 l r0 I0 M0 h0 (([] : List Spot), 0) h)

-- garmentref11.Check
def garmentref11_Check_S0 (p : List Spot) (i3 : Int) : AS := ⟨[(0, .sl 2 (p.map cSpot)), (3, int i3)], [], 0⟩
abbrev garmentref11_Check_V (p : List Spot) (r0 : Int) (I0 : Int → Prop) (M0 : Int → Nat) : Prop := ((((p.length : Nat) : Int) > 40 → r0 = 5) ∧ (¬ (((p.length : Nat) : Int) > 40) → ((((p.length : Nat) : Int) < 3 → r0 = 11) ∧ (¬ (((p.length : Nat) : Int) < 3) → I0 0))))
abbrev garmentref11_Check_V0 (p : List Spot) (r0 : Int) (I0 : Int → Prop) (M0 : Int → Nat) (i3 : Int) : Prop := ((i3 < ((p.length : Nat) : Int) → (Idx i3 p.length) ∧ (∃ (within1 : Bool), Ret Tryz.prog XS 54 [.agg [int ((ai p i3).x), int ((ai p i3).y)], int 1048576] (boo within1) ∧ ((within1 = true → (InR (i3 + 1)) ∧ I0 (i3 + 1) ∧ M0 (i3 + 1) < M0 i3) ∧ (within1 = false → r0 = 3)))) ∧ (¬ (i3 < ((p.length : Nat) : Int)) → (∃ (simple1 : Bool), Ret Tryz.prog XS 55 [.sl 2 (p.map cSpot)] (boo simple1) ∧ ((simple1 = true → r0 = 0) ∧ (simple1 = false → r0 = 11)))))
theorem garmentref11_Check_W0 (p : List Spot) (r0 : Int) (I0 : Int → Prop) (M0 : Int → Nat) (h0 : ∀ (i3 : Int), I0 i3 → garmentref11_Check_V0 p r0 I0 M0 i3) : ∀ (x : Int), I0 x → loopQ Tryz.prog XS Tryz.f38 0 (int r0) [] (garmentref11_Check_S0 p x) := by
  intro x0 hx0
  refine loop_rule (fun (x : Int) => I0 x) (fun (x : Int) => M0 x) (fun (x : Int) => garmentref11_Check_S0 p x) x0 hx0 ?_
  intro i3 hx
  have h := h0 i3 hx
  clear hx hx0 x0
  have g_1 := (olen cSpot Tryz.prog 24 2 p (by kernel_rfl))
  by_cases c1 : i3 < ((p.length : Nat) : Int)
  · have h := h.1 c1
    obtain ⟨c2, within1, c3, h⟩ := h
    have g_2 := (abt (dec_t c1))
    have e_3 := (ac g_2 (ac (oidx cSpot c2) (ocs c3)))
    rcases Bool.eq_false_or_eq_true within1 with c4 | c4
    · have h := h.1 c4
      obtain ⟨c5, h⟩ := h
      exact sb (ts := [0, 3]) (ids := []) (d := 0) (s0 := ⟨[(0, .sl 2 (p.map cSpot)), (3, int (i3 + 1))], [], 0⟩) (ac g_1 (ac e_3 (ac (abf (not_f c4)) (oadd Tryz.prog 3 (wi64 c5))))) (by kernel_rfl) (by kernel_rfl) rfl (i3 + 1) h.1 h.2 (Weak.anew [] (by rfl) (wt_cons rfl wk_sl (wt_cons rfl wk_sc wt_nil)) wm_nil)
    · have h := h.2 c4
      rw [h]
      exact sr (ids := []) (vs := [int 3]) (mem := []) (ac g_1 (ac e_3 (abt (not_t c4)))) (by kernel_rfl) (by kernel_rfl) (rts_sc rfl)
  · have h := h.2 c1
    obtain ⟨simple1, c2, h⟩ := h
    have g_4 := (abf (dec_f c1))
    have e_5 := (ac g_4 (ocs c2))
    rcases Bool.eq_false_or_eq_true simple1 with c3 | c3
    · have h := h.1 c3
      rw [h]
      exact sr (ids := []) (vs := [int 0]) (mem := []) (ac g_1 (ac e_5 (abf (not_f c3)))) (by kernel_rfl) (by kernel_rfl) (rts_sc rfl)
    · have h := h.2 c3
      rw [h]
      exact sr (ids := []) (vs := [int 11]) (mem := []) (ac g_1 (ac e_5 (abt (not_t c3)))) (by kernel_rfl) (by kernel_rfl) (rts_sc rfl)
theorem garmentref11_Check_W (p : List Spot) (r0 : Int) (I0 : Int → Prop) (M0 : Int → Nat) (h : garmentref11_Check_V p r0 I0 M0) (h0 : ∀ (i3 : Int), I0 i3 → garmentref11_Check_V0 p r0 I0 M0 i3) : Ret Tryz.prog XS 38 [.sl 2 (p.map cSpot)] (int r0) := by
  refine fn_rule Tryz.func38 (by kernel_rfl) (by kernel_rfl) (by kernel_rfl) (by kernel_rfl) ?_
  have g_6 := (olen cSpot Tryz.prog 24 2 p (by kernel_rfl))
  by_cases c1 : ((p.length : Nat) : Int) > 40
  · have h := h.1 c1
    have g_7 := (abt (dec_t c1))
    rw [h]
    exact sr (ids := []) (vs := [int 5]) (mem := []) (ac g_6 g_7) (by kernel_rfl) (by kernel_rfl) (rts_sc rfl)
  · have h := h.2 c1
    have g_8 := (abf (dec_f c1))
    have e_9 := (ac g_8 g_6)
    by_cases c2 : ((p.length : Nat) : Int) < 3
    · have h := h.1 c2
      rw [h]
      exact sr (ids := []) (vs := [int 11]) (mem := []) (ac g_6 (ac e_9 (abt (dec_t c2)))) (by kernel_rfl) (by kernel_rfl) (rts_sc rfl)
    · have h := h.2 c2
      exact sl (ts := [0, 3]) (ids := []) (d := 0) (s0 := ⟨[(0, .sl 2 (p.map cSpot)), (3, int 0)], [], 0⟩) (ac g_6 (ac e_9 (abf (dec_f c2)))) (by kernel_rfl) (by kernel_rfl) (Weak.anew [] (by rfl) (wt_cons rfl wk_sl (wt_cons rfl wk_sc wt_nil)) wm_nil) (garmentref11_Check_W0 p r0 I0 M0 h0 0 h)

-- garmentref11.Within
abbrev garmentref11_Within_V (s0 : Spot) (limit : Int) (r0 : Bool) : Prop := (InR (-limit)) ∧ ((s0.x ≥ (-limit) → ((s0.x ≤ limit → ((s0.y ≥ (-limit) → r0 = (decide (s0.y ≤ limit))) ∧ (¬ (s0.y ≥ (-limit)) → r0 = false))) ∧ (¬ (s0.x ≤ limit) → r0 = false))) ∧ (¬ (s0.x ≥ (-limit)) → r0 = false))
theorem garmentref11_Within_W (s0 : Spot) (limit : Int) (r0 : Bool) (h : garmentref11_Within_V s0 limit r0) : Ret Tryz.prog XS 54 [.agg [int s0.x, int s0.y], int limit] (boo r0) := by
  refine fn_rule Tryz.func54 (by kernel_rfl) (by kernel_rfl) (by kernel_rfl) (by kernel_rfl) ?_
  obtain ⟨c1, h⟩ := h
  have g_1 := (oneg (wi64 c1))
  by_cases c2 : s0.x ≥ (-limit)
  · have h := h.1 c2
    have g_2 := (abt (dec_t c2))
    have e_3 := (ac g_2 (ac g_2 (ac g_2 (ac g_2 g_2))))
    by_cases c3 : s0.x ≤ limit
    · have h := h.1 c3
      have g_4 := (abt (dec_t c3))
      have e_5 := (ac g_4 (ac g_4 (ac g_4 (ac g_4 (ac g_1 (ac g_4 g_4))))))
      by_cases c4 : s0.y ≥ (-limit)
      · have h := h.1 c4
        have g_6 := (abt (dec_t c4))
        rw [h]
        exact sr (ids := []) (vs := [boo (decide (s0.y ≤ limit))]) (mem := []) (ac g_1 (ac e_3 (ac e_5 (ac g_6 (ac g_6 (ac g_6 (ac g_6 g_6))))))) (by kernel_rfl) (by kernel_rfl) (rts_sc rfl)
      · have h := h.2 c4
        have g_7 := (abf (dec_f c4))
        rw [h]
        exact sr (ids := []) (vs := [boo false]) (mem := []) (ac g_1 (ac e_3 (ac e_5 (ac g_7 (ac g_7 (ac g_7 (ac g_7 g_7))))))) (by kernel_rfl) (by kernel_rfl) (rts_sc rfl)
    · have h := h.2 c3
      have g_8 := (abf (dec_f c3))
      rw [h]
      exact sr (ids := []) (vs := [boo false]) (mem := []) (ac g_1 (ac e_3 (ac g_8 (ac g_8 (ac g_8 (ac g_8 (ac g_8 (ac g_8 (ac abff (ac abff (ac abff (ac abff abff)))))))))))) (by kernel_rfl) (by kernel_rfl) (rts_sc rfl)
  · have h := h.2 c2
    have g_9 := (abf (dec_f c2))
    rw [h]
    exact sr (ids := []) (vs := [boo false]) (mem := []) (ac g_1 (ac g_9 (ac g_9 (ac g_9 (ac g_9 (ac g_9 (ac abff (ac abff (ac abff (ac abff (ac abff (ac abff (ac abff (ac abff (ac abff (ac abff abff)))))))))))))))) (by kernel_rfl) (by kernel_rfl) (rts_sc rfl)

-- garmentref11.simple
def garmentref11_simple_S0 (listappend : List Spot) (v4 : Int) : AS := ⟨[(0, .sl 2 (listappend.map cSpot)), (3, int ((listappend.length : Nat) : Int)), (4, int v4)], [], 0⟩
def garmentref11_simple_S1 (listappend : List Spot) (v4 : Int) (v8 : Int) : AS := ⟨[(0, .sl 2 (listappend.map cSpot)), (3, int ((listappend.length : Nat) : Int)), (4, int v4), (5, .ptr 0 0 0), (6, .ptr 1 0 0), (8, int v8)], [(0, .box [int ((ai listappend v4).x), int ((ai listappend v4).y)]), (1, .box [int ((ai listappend ((v4 + 1).tmod ((listappend.length : Nat) : Int))).x), int ((ai listappend ((v4 + 1).tmod ((listappend.length : Nat) : Int))).y)])], 2⟩
abbrev garmentref11_simple_V (listappend : List Spot) (r0 : Bool) (I0 : Int → Prop) (M0 : Int → Nat) (I1 : Int → Int → Prop) (M1 : Int → Int → Nat) : Prop := I0 0
abbrev garmentref11_simple_V0 (listappend : List Spot) (r0 : Bool) (I0 : Int → Prop) (M0 : Int → Nat) (I1 : Int → Int → Prop) (M1 : Int → Int → Nat) (v4 : Int) : Prop := ((v4 < ((listappend.length : Nat) : Int) → (Idx v4 listappend.length) ∧ (InR (v4 + 1)) ∧ (((listappend.length : Nat) : Int) ≠ 0) ∧ (Idx ((v4 + 1).tmod ((listappend.length : Nat) : Int)) listappend.length) ∧ (InR (v4 + 2)) ∧ (Idx ((v4 + 2).tmod ((listappend.length : Nat) : Int)) listappend.length) ∧ (((ai listappend v4) = (ai listappend ((v4 + 1).tmod ((listappend.length : Nat) : Int))) → r0 = false) ∧ (¬ ((ai listappend v4) = (ai listappend ((v4 + 1).tmod ((listappend.length : Nat) : Int)))) → (∃ (between1 : Bool), Ret Tryz.prog XS 64 [.agg [int ((ai listappend v4).x), int ((ai listappend v4).y)], .agg [int ((ai listappend ((v4 + 1).tmod ((listappend.length : Nat) : Int))).x), int ((ai listappend ((v4 + 1).tmod ((listappend.length : Nat) : Int))).y)], .agg [int ((ai listappend ((v4 + 2).tmod ((listappend.length : Nat) : Int))).x), int ((ai listappend ((v4 + 2).tmod ((listappend.length : Nat) : Int))).y)]] (boo between1) ∧ ((between1 = true → r0 = false) ∧ (between1 = false → (∃ (between2 : Bool), Ret Tryz.prog XS 64 [.agg [int ((ai listappend ((v4 + 1).tmod ((listappend.length : Nat) : Int))).x), int ((ai listappend ((v4 + 1).tmod ((listappend.length : Nat) : Int))).y)], .agg [int ((ai listappend ((v4 + 2).tmod ((listappend.length : Nat) : Int))).x), int ((ai listappend ((v4 + 2).tmod ((listappend.length : Nat) : Int))).y)], .agg [int ((ai listappend v4).x), int ((ai listappend v4).y)]] (boo between2) ∧ ((between2 = true → r0 = false) ∧ (between2 = false → I1 v4 (v4 + 2)))))))))) ∧ (¬ (v4 < ((listappend.length : Nat) : Int)) → r0 = true))
abbrev garmentref11_simple_V1 (listappend : List Spot) (r0 : Bool) (I0 : Int → Prop) (M0 : Int → Nat) (I1 : Int → Int → Prop) (M1 : Int → Int → Nat) (v4 : Int) (v8 : Int) : Prop := ((v8 < ((listappend.length : Nat) : Int) → (InR (v8 + 1)) ∧ (((listappend.length : Nat) : Int) ≠ 0) ∧ ((((v8 + 1).tmod ((listappend.length : Nat) : Int)) = v4 → I1 v4 (v8 + 1) ∧ M1 v4 (v8 + 1) < M1 v4 v8) ∧ (¬ (((v8 + 1).tmod ((listappend.length : Nat) : Int)) = v4) → (Idx v8 listappend.length) ∧ (Idx ((v8 + 1).tmod ((listappend.length : Nat) : Int)) listappend.length) ∧ (∃ (meet1 : Bool), Ret Tryz.prog XS 65 [.agg [int ((ai listappend v4).x), int ((ai listappend v4).y)], .agg [int ((ai listappend ((v4 + 1).tmod ((listappend.length : Nat) : Int))).x), int ((ai listappend ((v4 + 1).tmod ((listappend.length : Nat) : Int))).y)], .agg [int ((ai listappend v8).x), int ((ai listappend v8).y)], .agg [int ((ai listappend ((v8 + 1).tmod ((listappend.length : Nat) : Int))).x), int ((ai listappend ((v8 + 1).tmod ((listappend.length : Nat) : Int))).y)]] (boo meet1) ∧ ((meet1 = true → r0 = false) ∧ (meet1 = false → I1 v4 (v8 + 1) ∧ M1 v4 (v8 + 1) < M1 v4 v8)))))) ∧ (¬ (v8 < ((listappend.length : Nat) : Int)) → (InR (v4 + 1)) ∧ I0 (v4 + 1) ∧ M0 (v4 + 1) < M0 v4))
theorem garmentref11_simple_W1 (listappend : List Spot) (r0 : Bool) (I0 : Int → Prop) (M0 : Int → Nat) (I1 : Int → Int → Prop) (M1 : Int → Int → Nat) (h0 : ∀ (v4 : Int), I0 v4 → garmentref11_simple_V0 listappend r0 I0 M0 I1 M1 v4) (h1 : ∀ (v4 : Int) (v8 : Int), I1 v4 v8 → garmentref11_simple_V1 listappend r0 I0 M0 I1 M1 v4 v8) (v4 : Int) : ∀ (x : Int), I1 v4 x → loopQ Tryz.prog XS Tryz.f55 1 (boo r0) [backI (fun (x : Int) => I0 x) (fun (x : Int) => M0 x) (fun (x : Int) => garmentref11_simple_S0 listappend x) v4] (garmentref11_simple_S1 listappend v4 x) := by
  intro x0 hx0
  refine loop_rule (fun (x : Int) => I1 v4 x) (fun (x : Int) => M1 v4 x) (fun (x : Int) => garmentref11_simple_S1 listappend v4 x) x0 hx0 ?_
  intro v8 hx
  have h := h1 v4 v8 hx
  clear hx hx0 x0
  by_cases c1 : v8 < ((listappend.length : Nat) : Int)
  · have h := h.1 c1
    obtain ⟨c2, c3, h⟩ := h
    have g_1 := (abt (dec_t c1))
    have g_2 := (oadd Tryz.prog 3 (wi64 c2))
    have g_3 := (orem Tryz.prog 3 .i64 (v8 + 1) ((listappend.length : Nat) : Int) c3)
    have e_4 := (ac g_1 (ac g_2 g_3))
    by_cases c4 : ((v8 + 1).tmod ((listappend.length : Nat) : Int)) = v4
    · have h := h.1 c4
      have g_5 := (abf (bne_f c4))
      exact sb (ts := [0, 3, 4, 5, 6, 8]) (ids := [0, 1]) (d := 0) (s0 := ⟨[(0, .sl 2 (listappend.map cSpot)), (3, int ((listappend.length : Nat) : Int)), (4, int v4), (5, .ptr 0 0 0), (6, .ptr 1 0 0), (8, int (v8 + 1))], [(0, .box [int ((ai listappend v4).x), int ((ai listappend v4).y)]), (1, .box [int ((ai listappend ((v4 + 1).tmod ((listappend.length : Nat) : Int))).x), int ((ai listappend ((v4 + 1).tmod ((listappend.length : Nat) : Int))).y)])], 2⟩) (ac e_4 (ac g_5 (ac g_5 (ac g_5 (ac g_5 (ac g_5 (ac g_5 (ac g_5 (ac g_5 (ac g_5 (ac g_5 (ac g_5 (ac g_5 (ac g_5 (ac g_5 (ac g_5 (ac abff g_2))))))))))))))))) (by kernel_rfl) (by kernel_rfl) rfl (v8 + 1) h.1 h.2 (Weak.anew [(0, some 0), (1, some 1)] (by rfl) (wt_cons rfl wk_sl (wt_cons rfl wk_sc (wt_cons rfl wk_sc (wt_cons rfl (wk_ptr rfl) (wt_cons rfl (wk_ptr rfl) (wt_cons rfl wk_sc wt_nil)))))) (wm_box rfl rfl (wl_cons wk_sc (wl_cons wk_sc wl_nil)) (wm_box rfl rfl (wl_cons wk_sc (wl_cons wk_sc wl_nil)) wm_nil)))
    · have h := h.2 c4
      obtain ⟨c5, c6, meet1, c7, h⟩ := h
      have g_6 := (abt (bne_t c4))
      have g_7 := (oidx cSpot c5)
      have e_8 := (ac g_6 (ac g_6 (ac g_6 (ac g_6 (ac g_6 (ac g_7 (ac g_6 (ac g_6 (ac g_6 (ac g_6 (ac g_2 (ac g_6 (ac g_6 (ac g_3 (ac g_6 (ac (oidx cSpot c6) (ac g_6 (ac g_6 (ac (ocs c7) g_6)))))))))))))))))))
      rcases Bool.eq_false_or_eq_true meet1 with c8 | c8
      · have h := h.1 c8
        rw [h]
        exact sr (ids := []) (vs := [boo false]) (mem := []) (ac e_4 (ac e_8 (abt c8))) (by kernel_rfl) (by kernel_rfl) (rts_sc rfl)
      · have h := h.2 c8
        exact sb (ts := [0, 3, 4, 5, 6, 8]) (ids := [0, 1]) (d := 0) (s0 := ⟨[(0, .sl 2 (listappend.map cSpot)), (3, int ((listappend.length : Nat) : Int)), (4, int v4), (5, .ptr 0 0 0), (6, .ptr 1 0 0), (8, int (v8 + 1))], [(0, .box [int ((ai listappend v4).x), int ((ai listappend v4).y)]), (1, .box [int ((ai listappend ((v4 + 1).tmod ((listappend.length : Nat) : Int))).x), int ((ai listappend ((v4 + 1).tmod ((listappend.length : Nat) : Int))).y)])], 2⟩) (ac e_4 (ac e_8 (ac (abf c8) g_2))) (by kernel_rfl) (by kernel_rfl) rfl (v8 + 1) h.1 h.2 (Weak.anew [(0, some 0), (1, some 1)] (by rfl) (wt_cons rfl wk_sl (wt_cons rfl wk_sc (wt_cons rfl wk_sc (wt_cons rfl (wk_ptr rfl) (wt_cons rfl (wk_ptr rfl) (wt_cons rfl wk_sc wt_nil)))))) (wm_box rfl rfl (wl_cons wk_sc (wl_cons wk_sc wl_nil)) (wm_box rfl rfl (wl_cons wk_sc (wl_cons wk_sc wl_nil)) wm_nil)))
  · have h := h.2 c1
    obtain ⟨c2, h⟩ := h
    have g_9 := (abf (dec_f c1))
    have g_10 := (oadd Tryz.prog 3 (wi64 c2))
    exact sb (ts := [0, 3, 4]) (ids := []) (d := 1) (s0 := ⟨[(0, .sl 2 (listappend.map cSpot)), (3, int ((listappend.length : Nat) : Int)), (4, int (v4 + 1))], [], 2⟩) (ac g_9 g_10) (by kernel_rfl) (by kernel_rfl) rfl (v4 + 1) h.1 h.2 (Weak.anew [] (by rfl) (wt_cons rfl wk_sl (wt_cons rfl wk_sc (wt_cons rfl wk_sc wt_nil))) wm_nil)
theorem garmentref11_simple_W0 (listappend : List Spot) (r0 : Bool) (I0 : Int → Prop) (M0 : Int → Nat) (I1 : Int → Int → Prop) (M1 : Int → Int → Nat) (h0 : ∀ (v4 : Int), I0 v4 → garmentref11_simple_V0 listappend r0 I0 M0 I1 M1 v4) (h1 : ∀ (v4 : Int) (v8 : Int), I1 v4 v8 → garmentref11_simple_V1 listappend r0 I0 M0 I1 M1 v4 v8) : ∀ (x : Int), I0 x → loopQ Tryz.prog XS Tryz.f55 0 (boo r0) [] (garmentref11_simple_S0 listappend x) := by
  intro x0 hx0
  refine loop_rule (fun (x : Int) => I0 x) (fun (x : Int) => M0 x) (fun (x : Int) => garmentref11_simple_S0 listappend x) x0 hx0 ?_
  intro v4 hx
  have h := h0 v4 hx
  clear hx hx0 x0
  by_cases c1 : v4 < ((listappend.length : Nat) : Int)
  · have h := h.1 c1
    obtain ⟨c2, c3, c4, c5, c6, c7, h⟩ := h
    have g_11 := (abt (dec_t c1))
    have g_12 := (oidx cSpot c5)
    have g_13 := (oadd Tryz.prog 3 (wi64 c6))
    have e_14 := (ac g_11 (ac (oidx cSpot c2) (ac (oadd Tryz.prog 3 (wi64 c3)) (ac (orem Tryz.prog 3 .i64 (v4 + 1) ((listappend.length : Nat) : Int) c4) (ac g_12 (ac g_13 (ac (orem Tryz.prog 3 .i64 (v4 + 2) ((listappend.length : Nat) : Int) c4) (oidx cSpot c7))))))))
    by_cases c8 : (ai listappend v4) = (ai listappend ((v4 + 1).tmod ((listappend.length : Nat) : Int)))
    · have h := h.1 c8
      have g_15 := (abt (sSpot_t c8))
      rw [h]
      exact sr (ids := []) (vs := [boo false]) (mem := []) (ac e_14 (ac g_15 (ac g_15 (ac g_15 (ac g_15 (ac g_15 (ac abtt (ac abtt (ac abtt (ac abtt (ac abtt abtt))))))))))) (by kernel_rfl) (by kernel_rfl) (rts_sc rfl)
    · have h := h.2 c8
      obtain ⟨between1, c9, h⟩ := h
      have g_16 := (abf (sSpot_f c8))
      have e_17 := (ac g_16 (ac g_16 (ac g_16 (ac g_16 (ac (ocs c9) g_16)))))
      rcases Bool.eq_false_or_eq_true between1 with c10 | c10
      · have h := h.1 c10
        rw [h]
        exact sr (ids := []) (vs := [boo false]) (mem := []) (ac e_14 (ac e_17 (ac (abt c10) (ac (abt c10) (ac (abt c10) (ac (abt c10) (ac (abt c10) abtt))))))) (by kernel_rfl) (by kernel_rfl) (rts_sc rfl)
      · have h := h.2 c10
        obtain ⟨between2, c11, h⟩ := h
        have e_18 := (ac (abf c10) (ac (abf c10) (ac (abf c10) (ac (abf c10) (ac (ocs c11) (abf c10))))))
        rcases Bool.eq_false_or_eq_true between2 with c12 | c12
        · have h := h.1 c12
          rw [h]
          exact sr (ids := []) (vs := [boo false]) (mem := []) (ac e_14 (ac e_17 (ac e_18 (abt c12)))) (by kernel_rfl) (by kernel_rfl) (rts_sc rfl)
        · have h := h.2 c12
          exact sl (ts := [0, 3, 4, 5, 6, 8]) (ids := [0, 1]) (d := 0) (s0 := ⟨[(0, .sl 2 (listappend.map cSpot)), (3, int ((listappend.length : Nat) : Int)), (4, int v4), (5, .ptr 0 0 0), (6, .ptr 1 0 0), (8, int (v4 + 2))], [(0, .box [int ((ai listappend v4).x), int ((ai listappend v4).y)]), (1, .box [int ((ai listappend ((v4 + 1).tmod ((listappend.length : Nat) : Int))).x), int ((ai listappend ((v4 + 1).tmod ((listappend.length : Nat) : Int))).y)])], 3⟩) (ac e_14 (ac e_17 (ac e_18 (ac (abf c12) g_13)))) (by kernel_rfl) (by kernel_rfl) (Weak.anew [(0, some 0), (1, some 1)] (by rfl) (wt_cons rfl wk_sl (wt_cons rfl wk_sc (wt_cons rfl wk_sc (wt_cons rfl (wk_ptr rfl) (wt_cons rfl (wk_ptr rfl) (wt_cons rfl wk_sc wt_nil)))))) (wm_box rfl rfl (wl_cons wk_sc (wl_cons wk_sc wl_nil)) (wm_box rfl rfl (wl_cons wk_sc (wl_cons wk_sc wl_nil)) wm_nil))) (garmentref11_simple_W1 listappend r0 I0 M0 I1 M1 h0 h1 v4 (v4 + 2) h)
  · have h := h.2 c1
    have g_19 := (abf (dec_f c1))
    rw [h]
    exact sr (ids := []) (vs := [boo true]) (mem := []) g_19 (by kernel_rfl) (by kernel_rfl) (rts_sc rfl)
theorem garmentref11_simple_W (listappend : List Spot) (r0 : Bool) (I0 : Int → Prop) (M0 : Int → Nat) (I1 : Int → Int → Prop) (M1 : Int → Int → Nat) (h : garmentref11_simple_V listappend r0 I0 M0 I1 M1) (h0 : ∀ (v4 : Int), I0 v4 → garmentref11_simple_V0 listappend r0 I0 M0 I1 M1 v4) (h1 : ∀ (v4 : Int) (v8 : Int), I1 v4 v8 → garmentref11_simple_V1 listappend r0 I0 M0 I1 M1 v4 v8) : Ret Tryz.prog XS 55 [.sl 2 (listappend.map cSpot)] (boo r0) := by
  refine fn_rule Tryz.func55 (by kernel_rfl) (by kernel_rfl) (by kernel_rfl) (by kernel_rfl) ?_
  exact sl (ts := [0, 3, 4]) (ids := []) (d := 0) (s0 := ⟨[(0, .sl 2 (listappend.map cSpot)), (3, int ((listappend.length : Nat) : Int)), (4, int 0)], [], 0⟩) (olen cSpot Tryz.prog 24 2 listappend (by kernel_rfl)) (by kernel_rfl) (by kernel_rfl) (Weak.anew [] (by rfl) (wt_cons rfl wk_sl (wt_cons rfl wk_sc (wt_cons rfl wk_sc wt_nil))) wm_nil) (garmentref11_simple_W0 listappend r0 I0 M0 I1 M1 h0 h1 0 h)

-- garmentref11.Between
abbrev garmentref11_Between_V (a : Spot) (b : Spot) (q : Spot) (r0 : Bool) : Prop := (∃ (cross1 : Int), Ret Tryz.prog XS 71 [.agg [int a.x, int a.y], .agg [int b.x, int b.y], .agg [int q.x, int q.y]] (int cross1) ∧ ((cross1 = 0 → (((min a.x b.x) ≤ q.x → ((q.x ≤ (max a.x b.x) → (((min a.y b.y) ≤ q.y → r0 = (decide (q.y ≤ (max a.y b.y)))) ∧ (¬ ((min a.y b.y) ≤ q.y) → r0 = false))) ∧ (¬ (q.x ≤ (max a.x b.x)) → r0 = false))) ∧ (¬ ((min a.x b.x) ≤ q.x) → r0 = false))) ∧ (¬ (cross1 = 0) → r0 = false)))
theorem garmentref11_Between_W (a : Spot) (b : Spot) (q : Spot) (r0 : Bool) (h : garmentref11_Between_V a b q r0) : Ret Tryz.prog XS 64 [.agg [int a.x, int a.y], .agg [int b.x, int b.y], .agg [int q.x, int q.y]] (boo r0) := by
  refine fn_rule Tryz.func64 (by kernel_rfl) (by kernel_rfl) (by kernel_rfl) (by kernel_rfl) ?_
  obtain ⟨cross1, c1, h⟩ := h
  have e_1 := (ocs c1)
  by_cases c2 : cross1 = 0
  · have h := h.1 c2
    have g_2 := (abt (beq_t c2))
    have e_3 := (ac g_2 (ac g_2 (ac g_2 (ac g_2 (ac g_2 (ac (omin .i64 a.x b.x) (ac g_2 (ac g_2 (ac g_2 g_2)))))))))
    by_cases c3 : (min a.x b.x) ≤ q.x
    · have h := h.1 c3
      have g_4 := (abt (dec_t c3))
      have e_5 := (ac g_4 (ac g_4 (ac g_4 (ac g_4 (ac g_4 (ac g_4 (ac g_4 (ac (omax .i64 a.x b.x) (ac g_4 g_4)))))))))
      by_cases c4 : q.x ≤ (max a.x b.x)
      · have h := h.1 c4
        have g_6 := (abt (dec_t c4))
        have e_7 := (ac g_6 (ac g_6 (ac g_6 (ac g_6 (ac g_6 (ac (omin .i64 a.y b.y) (ac g_6 (ac g_6 (ac g_6 g_6)))))))))
        by_cases c5 : (min a.y b.y) ≤ q.y
        · have h := h.1 c5
          have g_8 := (abt (dec_t c5))
          rw [h]
          exact sr (ids := []) (vs := [boo (decide (q.y ≤ (max a.y b.y)))]) (mem := []) (ac e_1 (ac e_3 (ac e_5 (ac e_7 (ac g_8 (ac g_8 (ac g_8 (ac g_8 (ac g_8 (ac g_8 (ac g_8 (ac (omax .i64 a.y b.y) (ac g_8 g_8))))))))))))) (by kernel_rfl) (by kernel_rfl) (rts_sc rfl)
        · have h := h.2 c5
          have g_9 := (abf (dec_f c5))
          rw [h]
          exact sr (ids := []) (vs := [boo false]) (mem := []) (ac e_1 (ac e_3 (ac e_5 (ac e_7 (ac g_9 (ac g_9 (ac g_9 (ac g_9 (ac g_9 (ac g_9 (ac g_9 (ac g_9 g_9)))))))))))) (by kernel_rfl) (by kernel_rfl) (rts_sc rfl)
      · have h := h.2 c4
        have g_10 := (abf (dec_f c4))
        rw [h]
        exact sr (ids := []) (vs := [boo false]) (mem := []) (ac e_1 (ac e_3 (ac e_5 (ac g_10 (ac g_10 (ac g_10 (ac g_10 (ac g_10 (ac g_10 (ac g_10 (ac g_10 (ac g_10 (ac abff (ac abff (ac abff (ac abff (ac abff (ac abff (ac abff (ac abff abff)))))))))))))))))))) (by kernel_rfl) (by kernel_rfl) (rts_sc rfl)
    · have h := h.2 c3
      have g_11 := (abf (dec_f c3))
      rw [h]
      exact sr (ids := []) (vs := [boo false]) (mem := []) (ac e_1 (ac e_3 (ac g_11 (ac g_11 (ac g_11 (ac g_11 (ac g_11 (ac g_11 (ac g_11 (ac g_11 (ac g_11 (ac abff (ac abff (ac abff (ac abff (ac abff (ac abff (ac abff (ac abff (ac abff (ac abff (ac abff (ac abff (ac abff (ac abff (ac abff (ac abff (ac abff abff)))))))))))))))))))))))))))) (by kernel_rfl) (by kernel_rfl) (rts_sc rfl)
  · have h := h.2 c2
    have g_12 := (abf (beq_f c2))
    rw [h]
    exact sr (ids := []) (vs := [boo false]) (mem := []) (ac e_1 (ac g_12 (ac g_12 (ac g_12 (ac g_12 (ac g_12 (ac g_12 (ac g_12 (ac g_12 (ac g_12 (ac abff (ac abff (ac abff (ac abff (ac abff (ac abff (ac abff (ac abff (ac abff (ac abff (ac abff (ac abff (ac abff (ac abff (ac abff (ac abff (ac abff (ac abff (ac abff (ac abff (ac abff (ac abff (ac abff (ac abff (ac abff (ac abff abff)))))))))))))))))))))))))))))))))))) (by kernel_rfl) (by kernel_rfl) (rts_sc rfl)

-- garmentref11.Cross
abbrev garmentref11_Cross_V (a : Spot) (b : Spot) (c : Spot) (r0 : Int) : Prop := (InR (b.x - a.x)) ∧ (InR (c.y - a.y)) ∧ (InR ((b.x - a.x) * (c.y - a.y))) ∧ (InR (b.y - a.y)) ∧ (InR (c.x - a.x)) ∧ (InR ((b.y - a.y) * (c.x - a.x))) ∧ (InR (((b.x - a.x) * (c.y - a.y)) - ((b.y - a.y) * (c.x - a.x)))) ∧ r0 = (((b.x - a.x) * (c.y - a.y)) - ((b.y - a.y) * (c.x - a.x)))
theorem garmentref11_Cross_W (a : Spot) (b : Spot) (c : Spot) (r0 : Int) (h : garmentref11_Cross_V a b c r0) : Ret Tryz.prog XS 71 [.agg [int a.x, int a.y], .agg [int b.x, int b.y], .agg [int c.x, int c.y]] (int r0) := by
  refine fn_rule Tryz.func71 (by kernel_rfl) (by kernel_rfl) (by kernel_rfl) (by kernel_rfl) ?_
  obtain ⟨c1, c2, c3, c4, c5, c6, c7, h⟩ := h
  rw [h]
  exact sr (ids := []) (vs := [int (((b.x - a.x) * (c.y - a.y)) - ((b.y - a.y) * (c.x - a.x)))]) (mem := []) (ac (osub Tryz.prog 3 (wi64 c1)) (ac (osub Tryz.prog 3 (wi64 c2)) (ac (omul Tryz.prog 3 (wi64 c3)) (ac (osub Tryz.prog 3 (wi64 c4)) (ac (osub Tryz.prog 3 (wi64 c5)) (ac (omul Tryz.prog 3 (wi64 c6)) (osub Tryz.prog 3 (wi64 c7)))))))) (by kernel_rfl) (by kernel_rfl) (rts_sc rfl)

end Go.Ab
end
