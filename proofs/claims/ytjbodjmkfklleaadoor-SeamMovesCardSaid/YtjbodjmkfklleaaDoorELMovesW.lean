/- A part of the proof. Conditions: those of each theorem. -/
import Derived.Test.YtjbodjmkfklleaaDoorETy
import Derived.Test.YtjbodjmkfklleaaDoorEWall
set_option linter.unusedVariables false
set_option linter.unusedSimpArgs false
set_option linter.unusedSectionVars false

section
namespace Go.Ab
open Go.Proofs
set_option maxRecDepth 1000000
set_option linter.unusedVariables false
attribute [local irreducible] todoQ
-- garmentlaw22.SeamMoves
def garmentlaw22_SeamMoves_S0 (listappend : List Spot) (a : Turn) (a2 : Spot) (v7 : List Spot) (v8 : Int) : AS := ⟨[(0, .sl 2 (listappend.map cSpot)), (4, .ptr 0 0 0), (5, .ptr 1 0 0), (7, .own 2 0 v7.length), (8, int v8)], [(2, .row 2 (v7.map cSpot)), (0, .box [boo a.flip, int a.quarter]), (1, .box [int a2.x, int a2.y])], 3⟩
def garmentlaw22_SeamMoves_S1 (listappend : List Spot) (a : Turn) (a2 : Spot) (v7 : List Spot) (congruent1a : Turn) (congruent1b : Spot) (v13 : Int) : AS := ⟨[(0, .sl 2 (listappend.map cSpot)), (7, .own 0 0 v7.length), (10, .ptr 1 0 0), (11, .ptr 2 0 0), (13, int v13)], [(0, .row 2 (v7.map cSpot)), (1, .box [boo congruent1a.flip, int congruent1a.quarter]), (2, .box [int congruent1b.x, int congruent1b.y])], 3⟩
abbrev garmentlaw22_SeamMoves_V (listappend : List Spot) (a : Turn) (a2 : Spot) (r0 : Bool) (I0 : (List Spot) → Int → Prop) (M0 : (List Spot) → Int → Nat) (I1 : (List Spot) → Turn → Spot → Int → Prop) (M1 : (List Spot) → Turn → Spot → Int → Nat) : Prop := ((((listappend.length : Nat) : Int) = 0 → (∃ (alive1 : Bool), Ret Tryd.prog XS 12 [] (boo alive1) ∧ r0 = alive1)) ∧ (¬ (((listappend.length : Nat) : Int) = 0) → ((((listappend.length : Nat) : Int) > 60 → (∃ (alive1 : Bool), Ret Tryd.prog XS 12 [] (boo alive1) ∧ r0 = alive1)) ∧ (¬ (((listappend.length : Nat) : Int) > 60) → I0 ([] : List Spot) 0))))
abbrev garmentlaw22_SeamMoves_V0 (listappend : List Spot) (a : Turn) (a2 : Spot) (r0 : Bool) (I0 : (List Spot) → Int → Prop) (M0 : (List Spot) → Int → Nat) (I1 : (List Spot) → Turn → Spot → Int → Prop) (M1 : (List Spot) → Turn → Spot → Int → Nat) (v7 : List Spot) (v8 : Int) : Prop := ((v8 < ((listappend.length : Nat) : Int) → (Idx v8 listappend.length) ∧ (∃ (apply1 : Spot), Ret Tryd.prog XS 23 [.agg [boo a.flip, int a.quarter], .agg [int ((ai listappend v8).x), int ((ai listappend v8).y)]] (.agg [int apply1.x, int apply1.y]) ∧ (Cap 16 (v7 ++ ([(⟨(IntKind.wrap .i64 (apply1.x + a2.x)), (IntKind.wrap .i64 (apply1.y + a2.y))⟩ : Spot)] : List Spot)).length) ∧ (InR (v8 + 1)) ∧ I0 (v7 ++ ([(⟨(IntKind.wrap .i64 (apply1.x + a2.x)), (IntKind.wrap .i64 (apply1.y + a2.y))⟩ : Spot)] : List Spot)) (v8 + 1) ∧ M0 (v7 ++ ([(⟨(IntKind.wrap .i64 (apply1.x + a2.x)), (IntKind.wrap .i64 (apply1.y + a2.y))⟩ : Spot)] : List Spot)) (v8 + 1) < M0 v7 v8)) ∧ (¬ (v8 < ((listappend.length : Nat) : Int)) → (∃ (congruent1a : Turn) (congruent1b : Spot) (congruent1c : Bool), Ret Tryd.prog XS 13 [.sl 2 (listappend.map cSpot), .sl 2 (v7.map cSpot)] (.tup [.agg [boo congruent1a.flip, int congruent1a.quarter], .agg [int congruent1b.x, int congruent1b.y], boo congruent1c]) ∧ ((congruent1c = true → ((congruent1a.quarter < 0 → r0 = false) ∧ (¬ (congruent1a.quarter < 0) → ((congruent1a.quarter > 3 → r0 = false) ∧ (¬ (congruent1a.quarter > 3) → I1 v7 congruent1a congruent1b 0))))) ∧ (congruent1c = false → r0 = false)))))
abbrev garmentlaw22_SeamMoves_V1 (listappend : List Spot) (a : Turn) (a2 : Spot) (r0 : Bool) (I0 : (List Spot) → Int → Prop) (M0 : (List Spot) → Int → Nat) (I1 : (List Spot) → Turn → Spot → Int → Prop) (M1 : (List Spot) → Turn → Spot → Int → Nat) (v7 : List Spot) (congruent1a : Turn) (congruent1b : Spot) (v13 : Int) : Prop := ((v13 < ((listappend.length : Nat) : Int) → (Idx v13 listappend.length) ∧ (∃ (apply1 : Spot), Ret Tryd.prog XS 23 [.agg [boo congruent1a.flip, int congruent1a.quarter], .agg [int ((ai listappend v13).x), int ((ai listappend v13).y)]] (.agg [int apply1.x, int apply1.y]) ∧ (Idx v13 v7.length) ∧ (((IntKind.wrap .i64 (apply1.x + congruent1b.x)) = (ai v7 v13).x → (((IntKind.wrap .i64 (apply1.y + congruent1b.y)) = (ai v7 v13).y → (InR (v13 + 1)) ∧ I1 v7 congruent1a congruent1b (v13 + 1) ∧ M1 v7 congruent1a congruent1b (v13 + 1) < M1 v7 congruent1a congruent1b v13) ∧ (¬ ((IntKind.wrap .i64 (apply1.y + congruent1b.y)) = (ai v7 v13).y) → r0 = false))) ∧ (¬ ((IntKind.wrap .i64 (apply1.x + congruent1b.x)) = (ai v7 v13).x) → r0 = false)))) ∧ (¬ (v13 < ((listappend.length : Nat) : Int)) → (∃ (alive1 : Bool), Ret Tryd.prog XS 12 [] (boo alive1) ∧ r0 = alive1)))
theorem garmentlaw22_SeamMoves_W1 (listappend : List Spot) (a : Turn) (a2 : Spot) (r0 : Bool) (I0 : (List Spot) → Int → Prop) (M0 : (List Spot) → Int → Nat) (I1 : (List Spot) → Turn → Spot → Int → Prop) (M1 : (List Spot) → Turn → Spot → Int → Nat) (h0 : ∀ (v7 : List Spot) (v8 : Int), I0 v7 v8 → garmentlaw22_SeamMoves_V0 listappend a a2 r0 I0 M0 I1 M1 v7 v8) (h1 : ∀ (v7 : List Spot) (congruent1a : Turn) (congruent1b : Spot) (v13 : Int), I1 v7 congruent1a congruent1b v13 → garmentlaw22_SeamMoves_V1 listappend a a2 r0 I0 M0 I1 M1 v7 congruent1a congruent1b v13) (v7 : List Spot) (congruent1a : Turn) (congruent1b : Spot) : ∀ (x : Int), I1 v7 congruent1a congruent1b x → loopQ Tryd.prog XS Tryd.f8 1 (boo r0) [] (garmentlaw22_SeamMoves_S1 listappend a a2 v7 congruent1a congruent1b x) := by
  intro x0 hx0
  refine loop_rule (fun (x : Int) => I1 v7 congruent1a congruent1b x) (fun (x : Int) => M1 v7 congruent1a congruent1b x) (fun (x : Int) => garmentlaw22_SeamMoves_S1 listappend a a2 v7 congruent1a congruent1b x) x0 hx0 ?_
  intro v13 hx
  have h := h1 v7 congruent1a congruent1b v13 hx
  clear hx hx0 x0
  have g_1 := (olen cSpot Tryd.prog 29 2 listappend (by kernel_rfl))
  by_cases c1 : v13 < ((listappend.length : Nat) : Int)
  · have h := h.1 c1
    obtain ⟨c2, apply1, c3, c4, h⟩ := h
    have g_2 := (abt (dec_t c1))
    have g_3 := (oidx cSpot c2)
    have g_4 := (oown cSpot (n := v7.length) rfl c4)
    have g_5 := (orow cSpot c4)
    have e_6 := fun {o : Orc} {q : List Prop} (r : At o q) => (d11 g_2 (d11 g_3 (d11 (ocs c3) (d11 (oaddw Tryd.prog 3 .i64 apply1.x congruent1b.x) (d01 g_4 (d11 g_5 r))))))
    by_cases c5 : (IntKind.wrap .i64 (apply1.x + congruent1b.x)) = (ai v7 v13).x
    · have h := h.1 c5
      have g_7 := (abf (bne_f c5))
      have e_8 := fun {o : Orc} {q : List Prop} (r : At o q) => (d11 g_7 (d11 g_7 (d11 g_7 (d11 g_7 (d11 g_7 (d11 (oaddw Tryd.prog 3 .i64 apply1.y congruent1b.y) (d11 g_7 (d11 g_7 (d11 g_7 (d01 g_4 (d11 g_7 (d11 g_7 (d11 g_5 (d11 g_7 (d11 g_7 r)))))))))))))))
      by_cases c6 : (IntKind.wrap .i64 (apply1.y + congruent1b.y)) = (ai v7 v13).y
      · have h := h.1 c6
        obtain ⟨c7, h⟩ := h
        exact sb (ts := [0, 7, 10, 11, 13]) (ids := [0, 1, 2]) (d := 0) (s0 := ⟨[(0, .sl 2 (listappend.map cSpot)), (7, .own 0 0 v7.length), (10, .ptr 1 0 0), (11, .ptr 2 0 0), (13, int (v13 + 1))], [(0, .row 2 (v7.map cSpot)), (1, .box [boo congruent1a.flip, int congruent1a.quarter]), (2, .box [int congruent1b.x, int congruent1b.y])], 4⟩) (d11 g_1 (e_6 (e_8 (d11 (abf (bne_f c6)) (d11 (oadd Tryd.prog 3 (wi64 c7)) az))))) (by kernel_rfl) (by kernel_rfl) rfl (v13 + 1) h.1 h.2 (Weak.anew [(0, some 0), (1, some 1), (2, some 2)] (by rfl) (wt_cons rfl wk_sl (wt_cons rfl (wk_own rfl rfl) (wt_cons rfl (wk_ptr rfl) (wt_cons rfl (wk_ptr rfl) (wt_cons rfl wk_sc wt_nil))))) (wm_row rfl rfl (wm_box rfl rfl (wl_cons wk_sc (wl_cons wk_sc wl_nil)) (wm_box rfl rfl (wl_cons wk_sc (wl_cons wk_sc wl_nil)) wm_nil))))
      · have h := h.2 c6
        rw [h]
        exact sr (ids := []) (vs := [boo false]) (mem := []) (d11 g_1 (e_6 (e_8 (d11 (abt (bne_t c6)) az)))) (by kernel_rfl) (by kernel_rfl) (rts_sc rfl)
    · have h := h.2 c5
      have g_9 := (abt (bne_t c5))
      rw [h]
      exact sr (ids := []) (vs := [boo false]) (mem := []) (d11 g_1 (e_6 (d11 g_9 (d11 g_9 (d11 g_9 (d11 g_9 (d11 g_9 (d11 g_9 (d11 g_9 (d11 g_9 (d11 g_9 (d11 g_9 (d11 g_9 (d11 g_9 (d11 abtt az))))))))))))))) (by kernel_rfl) (by kernel_rfl) (rts_sc rfl)
  · have h := h.2 c1
    obtain ⟨alive1, c2, h⟩ := h
    have g_10 := (abf (dec_f c1))
    rw [h]
    exact sr (ids := []) (vs := [boo alive1]) (mem := []) (d11 g_1 (d11 g_10 (d11 (ocs c2) az))) (by kernel_rfl) (by kernel_rfl) (rts_sc rfl)
theorem garmentlaw22_SeamMoves_W0 (listappend : List Spot) (a : Turn) (a2 : Spot) (r0 : Bool) (I0 : (List Spot) → Int → Prop) (M0 : (List Spot) → Int → Nat) (I1 : (List Spot) → Turn → Spot → Int → Prop) (M1 : (List Spot) → Turn → Spot → Int → Nat) (h0 : ∀ (v7 : List Spot) (v8 : Int), I0 v7 v8 → garmentlaw22_SeamMoves_V0 listappend a a2 r0 I0 M0 I1 M1 v7 v8) (h1 : ∀ (v7 : List Spot) (congruent1a : Turn) (congruent1b : Spot) (v13 : Int), I1 v7 congruent1a congruent1b v13 → garmentlaw22_SeamMoves_V1 listappend a a2 r0 I0 M0 I1 M1 v7 congruent1a congruent1b v13) : ∀ (x : (List Spot) × Int), I0 x.1 x.2 → loopQ Tryd.prog XS Tryd.f8 0 (boo r0) [] (garmentlaw22_SeamMoves_S0 listappend a a2 x.1 x.2) := by
  intro x0 hx0
  refine loop_rule (fun (x : (List Spot) × Int) => I0 x.1 x.2) (fun (x : (List Spot) × Int) => M0 x.1 x.2) (fun (x : (List Spot) × Int) => garmentlaw22_SeamMoves_S0 listappend a a2 x.1 x.2) x0 hx0 ?_
  rintro ⟨v7, v8⟩ hx
  have h := h0 v7 v8 hx
  clear hx hx0 x0
  have g_11 := (olen cSpot Tryd.prog 29 2 listappend (by kernel_rfl))
  by_cases c1 : v8 < ((listappend.length : Nat) : Int)
  · have h := h.1 c1
    obtain ⟨c2, apply1, c3, c4, c5, h⟩ := h
    have g_12 := (abt (dec_t c1))
    have g_13 := (oidx cSpot c2)
    exact sb (ts := [0, 4, 5, 7, 8]) (ids := [5, 0, 1]) (d := 0) (s0 := ⟨[(0, .sl 2 (listappend.map cSpot)), (4, .ptr 0 0 0), (5, .ptr 1 0 0), (7, .own 5 0 ((v7 ++ ([(⟨(IntKind.wrap .i64 (apply1.x + a2.x)), (IntKind.wrap .i64 (apply1.y + a2.y))⟩ : Spot)] : List Spot)).length)), (8, int (v8 + 1))], [(5, .row 2 ((v7 ++ ([(⟨(IntKind.wrap .i64 (apply1.x + a2.x)), (IntKind.wrap .i64 (apply1.y + a2.y))⟩ : Spot)] : List Spot)).map cSpot)), (0, .box [boo a.flip, int a.quarter]), (1, .box [int a2.x, int a2.y])], 6⟩) (d11 g_11 (d11 g_12 (d11 g_13 (d11 (ocs c3) (d11 (oaddw Tryd.prog 3 .i64 apply1.x a2.x) (d11 (oaddw Tryd.prog 3 .i64 apply1.y a2.y) (d12 (oappo cSpot (n := v7.length) (m := ([(⟨(IntKind.wrap .i64 (apply1.x + a2.x)), (IntKind.wrap .i64 (apply1.y + a2.y))⟩ : Spot)] : List Spot).length) rfl rfl c4) (d11 (oadd Tryd.prog 3 (wi64 c5)) az)))))))) (by kernel_rfl) (by kernel_rfl) rfl ((v7 ++ ([(⟨(IntKind.wrap .i64 (apply1.x + a2.x)), (IntKind.wrap .i64 (apply1.y + a2.y))⟩ : Spot)] : List Spot)), (v8 + 1)) h.1 h.2 (Weak.anew [(2, some 5), (0, some 0), (1, some 1)] (by rfl) (wt_cons rfl wk_sl (wt_cons rfl (wk_ptr rfl) (wt_cons rfl (wk_ptr rfl) (wt_cons rfl (wk_own rfl rfl) (wt_cons rfl wk_sc wt_nil))))) (wm_row rfl rfl (wm_box rfl rfl (wl_cons wk_sc (wl_cons wk_sc wl_nil)) (wm_box rfl rfl (wl_cons wk_sc (wl_cons wk_sc wl_nil)) wm_nil))))
  · have h := h.2 c1
    obtain ⟨congruent1a, congruent1b, congruent1c, c2, h⟩ := h
    have g_14 := (abf (dec_f c1))
    have e_15 := fun {o : Orc} {q : List Prop} (r : At o q) => (d11 g_14 (d12 (ocl [2] [(2, .row 2 (v7.map cSpot))] [.sl 2 (listappend.map cSpot), .own 2 0 v7.length] (as_cons (ArgTo.same rfl) (as_cons (at_row rfl rfl) as_nil)) c2) r))
    rcases Bool.eq_false_or_eq_true congruent1c with c3 | c3
    · have h := h.1 c3
      have g_16 := (abf (not_f c3))
      have e_17 := fun {o : Orc} {q : List Prop} (r : At o q) => (d11 g_16 (d11 g_16 (d11 g_16 (d11 g_16 r))))
      by_cases c4 : congruent1a.quarter < 0
      · have h := h.1 c4
        have g_18 := (abt (dec_t c4))
        rw [h]
        exact sr (ids := []) (vs := [boo false]) (mem := []) (d11 g_11 (e_15 (e_17 (d11 g_18 (d11 g_18 (d11 g_18 (d11 g_18 (d11 abtt az)))))))) (by kernel_rfl) (by kernel_rfl) (rts_sc rfl)
      · have h := h.2 c4
        have g_19 := (abf (dec_f c4))
        have e_20 := fun {o : Orc} {q : List Prop} (r : At o q) => (d11 g_19 (d11 g_19 (d11 g_19 (d11 g_19 r))))
        by_cases c5 : congruent1a.quarter > 3
        · have h := h.1 c5
          rw [h]
          exact sr (ids := []) (vs := [boo false]) (mem := []) (d11 g_11 (e_15 (e_17 (e_20 (d11 (abt (dec_t c5)) az))))) (by kernel_rfl) (by kernel_rfl) (rts_sc rfl)
        · have h := h.2 c5
          exact sl (ts := [0, 7, 10, 11, 13]) (ids := [2, 3, 4]) (d := 1) (s0 := ⟨[(0, .sl 2 (listappend.map cSpot)), (7, .own 2 0 v7.length), (10, .ptr 3 0 0), (11, .ptr 4 0 0), (13, int 0)], [(2, .row 2 (v7.map cSpot)), (3, .box [boo congruent1a.flip, int congruent1a.quarter]), (4, .box [int congruent1b.x, int congruent1b.y])], 5⟩) (d11 g_11 (e_15 (e_17 (e_20 (d11 (abf (dec_f c5)) az))))) (by kernel_rfl) (by kernel_rfl) (Weak.anew [(0, some 2), (1, some 3), (2, some 4)] (by rfl) (wt_cons rfl wk_sl (wt_cons rfl (wk_own rfl rfl) (wt_cons rfl (wk_ptr rfl) (wt_cons rfl (wk_ptr rfl) (wt_cons rfl wk_sc wt_nil))))) (wm_row rfl rfl (wm_box rfl rfl (wl_cons wk_sc (wl_cons wk_sc wl_nil)) (wm_box rfl rfl (wl_cons wk_sc (wl_cons wk_sc wl_nil)) wm_nil)))) (garmentlaw22_SeamMoves_W1 listappend a a2 r0 I0 M0 I1 M1 h0 h1 v7 congruent1a congruent1b 0 h)
    · have h := h.2 c3
      have g_21 := (abt (not_t c3))
      rw [h]
      exact sr (ids := []) (vs := [boo false]) (mem := []) (d11 g_11 (e_15 (d11 g_21 (d11 g_21 (d11 g_21 (d11 g_21 (d11 abtt (d11 abtt (d11 abtt (d11 abtt (d11 abtt az))))))))))) (by kernel_rfl) (by kernel_rfl) (rts_sc rfl)
theorem garmentlaw22_SeamMoves_W (listappend : List Spot) (a : Turn) (a2 : Spot) (r0 : Bool) (I0 : (List Spot) → Int → Prop) (M0 : (List Spot) → Int → Nat) (I1 : (List Spot) → Turn → Spot → Int → Prop) (M1 : (List Spot) → Turn → Spot → Int → Nat) (h : garmentlaw22_SeamMoves_V listappend a a2 r0 I0 M0 I1 M1) (h0 : ∀ (v7 : List Spot) (v8 : Int), I0 v7 v8 → garmentlaw22_SeamMoves_V0 listappend a a2 r0 I0 M0 I1 M1 v7 v8) (h1 : ∀ (v7 : List Spot) (congruent1a : Turn) (congruent1b : Spot) (v13 : Int), I1 v7 congruent1a congruent1b v13 → garmentlaw22_SeamMoves_V1 listappend a a2 r0 I0 M0 I1 M1 v7 congruent1a congruent1b v13) : Ret Tryd.prog XS 8 [.sl 2 (listappend.map cSpot), .agg [boo a.flip, int a.quarter], .agg [int a2.x, int a2.y]] (boo r0) := by
  refine fn_rule Tryd.func8 (by kernel_rfl) (by kernel_rfl) (by kernel_rfl) (by kernel_rfl) ?_
  have g_22 := (olen cSpot Tryd.prog 29 2 listappend (by kernel_rfl))
  by_cases c1 : ((listappend.length : Nat) : Int) = 0
  · have h := h.1 c1
    obtain ⟨alive1, c2, h⟩ := h
    have g_23 := (abt (beq_t c1))
    rw [h]
    exact sr (ids := []) (vs := [boo alive1]) (mem := []) (d11 g_22 (d11 g_23 (d11 g_23 (d11 g_23 (d11 g_23 (d11 abtt (d11 (ocs c2) az))))))) (by kernel_rfl) (by kernel_rfl) (rts_sc rfl)
  · have h := h.2 c1
    have g_24 := (abf (beq_f c1))
    have e_25 := fun {o : Orc} {q : List Prop} (r : At o q) => (d11 g_24 (d11 g_24 (d11 g_22 (d11 g_24 (d11 g_24 r)))))
    by_cases c2 : ((listappend.length : Nat) : Int) > 60
    · have h := h.1 c2
      obtain ⟨alive1, c3, h⟩ := h
      rw [h]
      exact sr (ids := []) (vs := [boo alive1]) (mem := []) (d11 g_22 (e_25 (d11 (abt (dec_t c2)) (d11 (ocs c3) az)))) (by kernel_rfl) (by kernel_rfl) (rts_sc rfl)
    · have h := h.2 c2
      exact sl (ts := [0, 4, 5, 7, 8]) (ids := [0, 1]) (d := 0) (s0 := ⟨[(0, .sl 2 (listappend.map cSpot)), (4, .ptr 0 0 0), (5, .ptr 1 0 0), (7, .nil), (8, int 0)], [(0, .box [boo a.flip, int a.quarter]), (1, .box [int a2.x, int a2.y])], 2⟩) (d11 g_22 (e_25 (d11 (abf (dec_f c2)) az))) (by kernel_rfl) (by kernel_rfl) (Weak.anew [(2, none), (0, some 0), (1, some 1)] (by rfl) (wt_cons rfl wk_sl (wt_cons rfl (wk_ptr rfl) (wt_cons rfl (wk_ptr rfl) (wt_cons rfl (wk_nilown rfl) (wt_cons rfl wk_sc wt_nil))))) (wm_none rfl (wm_box rfl rfl (wl_cons wk_sc (wl_cons wk_sc wl_nil)) (wm_box rfl rfl (wl_cons wk_sc (wl_cons wk_sc wl_nil)) wm_nil)))) (garmentlaw22_SeamMoves_W0 listappend a a2 r0 I0 M0 I1 M1 h0 h1 (([] : List Spot), 0) h)
end Go.Ab
end
