/- A part of the proof. Conditions: those of each theorem. -/
import Derived.Test.YtjbodjmkfklleaaDoorETy
import Derived.Test.YtjbodjmkfklleaaDoorEX
set_option linter.unusedVariables false
set_option linter.unusedSimpArgs false
set_option linter.unusedSectionVars false

section
namespace Go.Ab
open Go.Proofs
set_option maxRecDepth 1000000
set_option linter.unusedVariables false
attribute [local irreducible] todoQ
-- seam.Congruent
def seam_Congruent_S0 (a : List Spot) (b : List Spot) (v26 : Int) : AS := ⟨[(0, .sl 2 (a.map cSpot)), (1, .sl 2 (b.map cSpot)), (4, .ptr 0 0 0), (5, .ptr 1 0 0), (26, int v26)], [(0, .box [boo false, int 0]), (1, .box [int 0, int 0])], 2⟩
def seam_Congruent_S1 (a : List Spot) (b : List Spot) (v26 : Int) (v39 : Int) (w9 : List Spot) : AS := ⟨[(0, .sl 2 (a.map cSpot)), (1, .sl 2 (b.map cSpot)), (4, .ptr 0 0 0), (5, .ptr 1 0 0), (8, .ptr 2 0 0), (9, .own 3 0 w9.length), (26, int v26), (37, .sl 2 (a.map cSpot)), (38, int ((a.length : Nat) : Int)), (39, int v39)], [(0, .box [boo false, int 0]), (1, .box [int 0, int 0]), (2, .box [boo (decide (v26 ≥ 4)), int (v26.tmod 4)]), (3, .row 2 (w9.map cSpot))], 4⟩
abbrev seam_Congruent_V (a : List Spot) (b : List Spot) (r0 : Turn) (r1 : Spot) (r2 : Bool) (I0 : Int → Prop) (M0 : Int → Nat) (I1 : Int → Int → (List Spot) → Prop) (M1 : Int → Int → (List Spot) → Nat) : Prop := ((((a.length : Nat) : Int) = 0 → r0 = (⟨false, 0⟩ : Turn) ∧ r1 = (⟨0, 0⟩ : Spot) ∧ r2 = false) ∧ (¬ (((a.length : Nat) : Int) = 0) → ((((a.length : Nat) : Int) = ((b.length : Nat) : Int) → I0 0) ∧ (¬ (((a.length : Nat) : Int) = ((b.length : Nat) : Int)) → r0 = (⟨false, 0⟩ : Turn) ∧ r1 = (⟨0, 0⟩ : Spot) ∧ r2 = false))))
abbrev seam_Congruent_V0 (a : List Spot) (b : List Spot) (r0 : Turn) (r1 : Spot) (r2 : Bool) (I0 : Int → Prop) (M0 : Int → Nat) (I1 : Int → Int → (List Spot) → Prop) (M1 : Int → Int → (List Spot) → Nat) (v26 : Int) : Prop := ((v26 < 8 → (0 ≤ ((a.length : Nat) : Int)) ∧ (((a.length : Nat) : Int) * 16 ≤ 140737488355328) ∧ (((a.length : Nat) : Int) ≤ 9223372036854775807) ∧ I1 v26 0 (List.replicate (((a.length : Nat) : Int) : Int).toNat (⟨0, 0⟩ : Spot))) ∧ (¬ (v26 < 8) → r0 = (⟨false, 0⟩ : Turn) ∧ r1 = (⟨0, 0⟩ : Spot) ∧ r2 = false))
abbrev seam_Congruent_V1 (a : List Spot) (b : List Spot) (r0 : Turn) (r1 : Spot) (r2 : Bool) (I0 : Int → Prop) (M0 : Int → Nat) (I1 : Int → Int → (List Spot) → Prop) (M1 : Int → Int → (List Spot) → Nat) (v26 : Int) (v39 : Int) (w9 : List Spot) : Prop := ((v39 < ((a.length : Nat) : Int) → (Idx v39 a.length) ∧ (∃ (apply1 : Spot), Ret Tryd.prog XS 21 [.agg [boo (decide (v26 ≥ 4)), int (v26.tmod 4)], .agg [int ((ai a v39).x), int ((ai a v39).y)]] (.agg [int apply1.x, int apply1.y]) ∧ (Idx v39 w9.length) ∧ (InR (v39 + 1)) ∧ I1 v26 (v39 + 1) (w9.set (v39 : Int).toNat apply1) ∧ M1 v26 (v39 + 1) (w9.set (v39 : Int).toNat apply1) < M1 v26 v39 w9)) ∧ (¬ (v39 < ((a.length : Nat) : Int)) → (∃ (move1a : Spot) (move1b : Bool), Ret Tryd.prog XS 28 [.sl 2 (w9.map cSpot), .sl 2 (b.map cSpot)] (.tup [.agg [int move1a.x, int move1a.y], boo move1b]) ∧ ((move1b = true → r0 = (⟨(decide (v26 ≥ 4)), (v26.tmod 4)⟩ : Turn) ∧ r1 = move1a ∧ r2 = true) ∧ (move1b = false → (InR (v26 + 1)) ∧ I0 (v26 + 1) ∧ M0 (v26 + 1) < M0 v26)))))
theorem seam_Congruent_W1 (a : List Spot) (b : List Spot) (r0 : Turn) (r1 : Spot) (r2 : Bool) (I0 : Int → Prop) (M0 : Int → Nat) (I1 : Int → Int → (List Spot) → Prop) (M1 : Int → Int → (List Spot) → Nat) (h0 : ∀ (v26 : Int), I0 v26 → seam_Congruent_V0 a b r0 r1 r2 I0 M0 I1 M1 v26) (h1 : ∀ (v26 : Int) (v39 : Int) (w9 : List Spot), I1 v26 v39 w9 → seam_Congruent_V1 a b r0 r1 r2 I0 M0 I1 M1 v26 v39 w9) (v26 : Int) : ∀ (x : Int × (List Spot)), I1 v26 x.1 x.2 → loopQ Tryd.prog XS Tryd.f13 1 (.tup [.agg [boo r0.flip, int r0.quarter], .agg [int r1.x, int r1.y], boo r2]) [backI (fun (x : Int) => I0 x) (fun (x : Int) => M0 x) (fun (x : Int) => seam_Congruent_S0 a b x) v26] (seam_Congruent_S1 a b v26 x.1 x.2) := by
  intro x0 hx0
  refine loop_rule (fun (x : Int × (List Spot)) => I1 v26 x.1 x.2) (fun (x : Int × (List Spot)) => M1 v26 x.1 x.2) (fun (x : Int × (List Spot)) => seam_Congruent_S1 a b v26 x.1 x.2) x0 hx0 ?_
  rintro ⟨v39, w9⟩ hx
  have h := h1 v26 v39 w9 hx
  clear hx hx0 x0
  by_cases c1 : v39 < ((a.length : Nat) : Int)
  · have h := h.1 c1
    obtain ⟨c2, apply1, c3, c4, c5, h⟩ := h
    have g_1 := (abt (dec_t c1))
    exact sb (ts := [0, 1, 4, 5, 8, 9, 26, 37, 38, 39]) (ids := [0, 1, 2, 3]) (d := 0) (s0 := ⟨[(0, .sl 2 (a.map cSpot)), (1, .sl 2 (b.map cSpot)), (4, .ptr 0 0 0), (5, .ptr 1 0 0), (8, .ptr 2 0 0), (9, .own 3 0 w9.length), (26, int v26), (37, .sl 2 (a.map cSpot)), (38, int ((a.length : Nat) : Int)), (39, int (v39 + 1))], [(0, .box [boo false, int 0]), (1, .box [int 0, int 0]), (2, .box [boo (decide (v26 ≥ 4)), int (v26.tmod 4)]), (3, .row 2 ((w9.set (v39 : Int).toNat apply1).map cSpot))], 5⟩) (d11 g_1 (d11 (oidx cSpot c2) (d11 (ocs c3) (d01 (oown cSpot (n := w9.length) rfl c4) (d21 (oset cSpot apply1 c4) (d11 (oadd Tryd.prog 3 (wi64 c5)) az)))))) (by kernel_rfl) (by kernel_rfl) rfl ((v39 + 1), (w9.set (v39 : Int).toNat apply1)) h.1 h.2 (Weak.anew [(0, some 0), (1, some 1), (2, some 2), (3, some 3)] (by rfl) (wt_cons rfl wk_sl (wt_cons rfl wk_sl (wt_cons rfl (wk_ptr rfl) (wt_cons rfl (wk_ptr rfl) (wt_cons rfl (wk_ptr rfl) (wt_cons rfl (wk_own rfl (by simp)) (wt_cons rfl wk_sc (wt_cons rfl wk_sl (wt_cons rfl wk_sc (wt_cons rfl wk_sc wt_nil)))))))))) (wm_box rfl rfl (wl_cons wk_sc (wl_cons wk_sc wl_nil)) (wm_box rfl rfl (wl_cons wk_sc (wl_cons wk_sc wl_nil)) (wm_box rfl rfl (wl_cons wk_sc (wl_cons wk_sc wl_nil)) (wm_row rfl rfl wm_nil)))))
  · have h := h.2 c1
    obtain ⟨move1a, move1b, c2, h⟩ := h
    have g_2 := (abf (dec_f c1))
    have e_3 := fun {o : Orc} {q : List Prop} (r : At o q) => (d11 g_2 (d12 (ocl [3] [(3, .row 2 (w9.map cSpot))] [.own 3 0 w9.length, .sl 2 (b.map cSpot)] (as_cons (at_row rfl rfl) (as_cons (ArgTo.same rfl) as_nil)) c2) r))
    rcases Bool.eq_false_or_eq_true move1b with c3 | c3
    · have h := h.1 c3
      rw [h.1, h.2.1, h.2.2]
      exact sr (ids := []) (vs := [.agg [boo (decide (v26 ≥ 4)), int (v26.tmod 4)], .agg [int move1a.x, int move1a.y], boo true]) (mem := []) (e_3 (d11 (abt c3) az)) (by kernel_rfl) (by kernel_rfl) (rts_agg (rcs_sc (rcs_sc (rcs_nil (rts_agg (rcs_sc (rcs_sc (rcs_nil (rts_sc rfl)))))))))
    · have h := h.2 c3
      obtain ⟨c4, h⟩ := h
      exact sb (ts := [0, 1, 4, 5, 26]) (ids := [0, 1]) (d := 1) (s0 := ⟨[(0, .sl 2 (a.map cSpot)), (1, .sl 2 (b.map cSpot)), (4, .ptr 0 0 0), (5, .ptr 1 0 0), (26, int (v26 + 1))], [(0, .box [boo false, int 0]), (1, .box [int 0, int 0])], 5⟩) (e_3 (d11 (abf c3) (d11 (oadd Tryd.prog 3 (wi64 c4)) az))) (by kernel_rfl) (by kernel_rfl) rfl (v26 + 1) h.1 h.2 (Weak.anew [(0, some 0), (1, some 1)] (by rfl) (wt_cons rfl wk_sl (wt_cons rfl wk_sl (wt_cons rfl (wk_ptr rfl) (wt_cons rfl (wk_ptr rfl) (wt_cons rfl wk_sc wt_nil))))) (wm_box rfl rfl (wl_cons wk_sc (wl_cons wk_sc wl_nil)) (wm_box rfl rfl (wl_cons wk_sc (wl_cons wk_sc wl_nil)) wm_nil)))
theorem seam_Congruent_W0 (a : List Spot) (b : List Spot) (r0 : Turn) (r1 : Spot) (r2 : Bool) (I0 : Int → Prop) (M0 : Int → Nat) (I1 : Int → Int → (List Spot) → Prop) (M1 : Int → Int → (List Spot) → Nat) (h0 : ∀ (v26 : Int), I0 v26 → seam_Congruent_V0 a b r0 r1 r2 I0 M0 I1 M1 v26) (h1 : ∀ (v26 : Int) (v39 : Int) (w9 : List Spot), I1 v26 v39 w9 → seam_Congruent_V1 a b r0 r1 r2 I0 M0 I1 M1 v26 v39 w9) : ∀ (x : Int), I0 x → loopQ Tryd.prog XS Tryd.f13 0 (.tup [.agg [boo r0.flip, int r0.quarter], .agg [int r1.x, int r1.y], boo r2]) [] (seam_Congruent_S0 a b x) := by
  intro x0 hx0
  refine loop_rule (fun (x : Int) => I0 x) (fun (x : Int) => M0 x) (fun (x : Int) => seam_Congruent_S0 a b x) x0 hx0 ?_
  intro v26 hx
  have h := h0 v26 hx
  clear hx hx0 x0
  by_cases c1 : v26 < 8
  · have h := h.1 c1
    obtain ⟨c2, c3, c4, h⟩ := h
    have g_4 := (abt (dec_t c1))
    have g_5 := (olen cSpot Tryd.prog 29 2 a (by kernel_rfl))
    exact sl (ts := [0, 1, 4, 5, 8, 9, 26, 37, 38, 39]) (ids := [0, 1, 2, 3]) (d := 0) (s0 := ⟨[(0, .sl 2 (a.map cSpot)), (1, .sl 2 (b.map cSpot)), (4, .ptr 0 0 0), (5, .ptr 1 0 0), (8, .ptr 2 0 0), (9, .own 3 0 ((List.replicate (((a.length : Nat) : Int) : Int).toNat (⟨0, 0⟩ : Spot)).length)), (26, int v26), (37, .sl 2 (a.map cSpot)), (38, int ((a.length : Nat) : Int)), (39, int 0)], [(0, .box [boo false, int 0]), (1, .box [int 0, int 0]), (2, .box [boo (decide (v26 ≥ 4)), int (v26.tmod 4)]), (3, .row 2 ((List.replicate (((a.length : Nat) : Int) : Int).toNat (⟨0, 0⟩ : Spot)).map cSpot))], 4⟩) (d11 g_4 (d11 (orem Tryd.prog 3 .i64 v26 4 (by decide)) (d11 g_5 (d11 (omake cSpot (v := (⟨0, 0⟩ : Spot)) (z := [int 0, int 0]) (l := ((a.length : Nat) : Int)) (b := 16) rfl c2 c3 c4) (d11 g_5 az))))) (by kernel_rfl) (by kernel_rfl) (Weak.anew [(0, some 0), (1, some 1), (2, some 2), (3, some 3)] (by rfl) (wt_cons rfl wk_sl (wt_cons rfl wk_sl (wt_cons rfl (wk_ptr rfl) (wt_cons rfl (wk_ptr rfl) (wt_cons rfl (wk_ptr rfl) (wt_cons rfl (wk_own rfl rfl) (wt_cons rfl wk_sc (wt_cons rfl wk_sl (wt_cons rfl wk_sc (wt_cons rfl wk_sc wt_nil)))))))))) (wm_box rfl rfl (wl_cons wk_sc (wl_cons wk_sc wl_nil)) (wm_box rfl rfl (wl_cons wk_sc (wl_cons wk_sc wl_nil)) (wm_box rfl rfl (wl_cons wk_sc (wl_cons wk_sc wl_nil)) (wm_row rfl rfl wm_nil))))) (seam_Congruent_W1 a b r0 r1 r2 I0 M0 I1 M1 h0 h1 v26 (0, (List.replicate (((a.length : Nat) : Int) : Int).toNat (⟨0, 0⟩ : Spot))) h)
  · have h := h.2 c1
    have g_6 := (abf (dec_f c1))
    rw [h.1, h.2.1, h.2.2]
    exact sr (ids := []) (vs := [.agg [boo false, int 0], .agg [int 0, int 0], boo false]) (mem := []) (d11 g_6 az) (by kernel_rfl) (by kernel_rfl) (rts_agg (rcs_sc (rcs_sc (rcs_nil (rts_agg (rcs_sc (rcs_sc (rcs_nil (rts_sc rfl)))))))))
theorem seam_Congruent_W (a : List Spot) (b : List Spot) (r0 : Turn) (r1 : Spot) (r2 : Bool) (I0 : Int → Prop) (M0 : Int → Nat) (I1 : Int → Int → (List Spot) → Prop) (M1 : Int → Int → (List Spot) → Nat) (h : seam_Congruent_V a b r0 r1 r2 I0 M0 I1 M1) (h0 : ∀ (v26 : Int), I0 v26 → seam_Congruent_V0 a b r0 r1 r2 I0 M0 I1 M1 v26) (h1 : ∀ (v26 : Int) (v39 : Int) (w9 : List Spot), I1 v26 v39 w9 → seam_Congruent_V1 a b r0 r1 r2 I0 M0 I1 M1 v26 v39 w9) : Ret Tryd.prog XS 13 [.sl 2 (a.map cSpot), .sl 2 (b.map cSpot)] (.tup [.agg [boo r0.flip, int r0.quarter], .agg [int r1.x, int r1.y], boo r2]) := by
  refine fn_rule Tryd.func13 (by kernel_rfl) (by kernel_rfl) (by kernel_rfl) (by kernel_rfl) ?_
  have g_7 := (olen cSpot Tryd.prog 29 2 a (by kernel_rfl))
  by_cases c1 : ((a.length : Nat) : Int) = 0
  · have h := h.1 c1
    have g_8 := (abt (beq_t c1))
    rw [h.1, h.2.1, h.2.2]
    exact sr (ids := []) (vs := [.agg [boo false, int 0], .agg [int 0, int 0], boo false]) (mem := []) (d11 g_7 (d11 g_8 (d11 g_8 (d11 g_8 (d11 g_8 (d11 g_8 (d11 g_8 (d11 abtt az)))))))) (by kernel_rfl) (by kernel_rfl) (rts_agg (rcs_sc (rcs_sc (rcs_nil (rts_agg (rcs_sc (rcs_sc (rcs_nil (rts_sc rfl)))))))))
  · have h := h.2 c1
    have g_9 := (abf (beq_f c1))
    have e_10 := fun {o : Orc} {q : List Prop} (r : At o q) => (d11 g_9 (d11 g_9 (d11 g_7 (d11 g_9 (d11 g_9 (d11 (olen cSpot Tryd.prog 29 2 b (by kernel_rfl)) (d11 g_9 (d11 g_9 r))))))))
    by_cases c2 : ((a.length : Nat) : Int) = ((b.length : Nat) : Int)
    · have h := h.1 c2
      exact sl (ts := [0, 1, 4, 5, 26]) (ids := [0, 1]) (d := 0) (s0 := ⟨[(0, .sl 2 (a.map cSpot)), (1, .sl 2 (b.map cSpot)), (4, .ptr 0 0 0), (5, .ptr 1 0 0), (26, int 0)], [(0, .box [boo false, int 0]), (1, .box [int 0, int 0])], 2⟩) (d11 g_7 (e_10 (d11 (abf (bne_f c2)) az))) (by kernel_rfl) (by kernel_rfl) (Weak.anew [(0, some 0), (1, some 1)] (by rfl) (wt_cons rfl wk_sl (wt_cons rfl wk_sl (wt_cons rfl (wk_ptr rfl) (wt_cons rfl (wk_ptr rfl) (wt_cons rfl wk_sc wt_nil))))) (wm_box rfl rfl (wl_cons wk_sc (wl_cons wk_sc wl_nil)) (wm_box rfl rfl (wl_cons wk_sc (wl_cons wk_sc wl_nil)) wm_nil))) (seam_Congruent_W0 a b r0 r1 r2 I0 M0 I1 M1 h0 h1 0 h)
    · have h := h.2 c2
      rw [h.1, h.2.1, h.2.2]
      exact sr (ids := []) (vs := [.agg [boo false, int 0], .agg [int 0, int 0], boo false]) (mem := []) (d11 g_7 (e_10 (d11 (abt (bne_t c2)) az))) (by kernel_rfl) (by kernel_rfl) (rts_agg (rcs_sc (rcs_sc (rcs_nil (rts_agg (rcs_sc (rcs_sc (rcs_nil (rts_sc rfl)))))))))

-- turn.Apply
abbrev turn_Apply_V (t0 : Turn) (s1 : Spot) (r0 : Spot) : Prop := ((t0.flip = true → (InR t0.quarter) ∧ (((t0.quarter % 4) = 1 → r0 = (⟨(IntKind.wrap .i64 (-s1.y)), (IntKind.wrap .i64 (-s1.x))⟩ : Spot)) ∧ (¬ ((t0.quarter % 4) = 1) → (((t0.quarter % 4) = 2 → r0 = (⟨(IntKind.wrap .i64 (-(IntKind.wrap .i64 (-s1.x)))), (IntKind.wrap .i64 (-s1.y))⟩ : Spot)) ∧ (¬ ((t0.quarter % 4) = 2) → (((t0.quarter % 4) = 3 → r0 = (⟨s1.y, (IntKind.wrap .i64 (-(IntKind.wrap .i64 (-s1.x))))⟩ : Spot)) ∧ (¬ ((t0.quarter % 4) = 3) → r0 = (⟨(IntKind.wrap .i64 (-s1.x)), s1.y⟩ : Spot)))))))) ∧ (t0.flip = false → (InR t0.quarter) ∧ (((t0.quarter % 4) = 1 → r0 = (⟨(IntKind.wrap .i64 (-s1.y)), s1.x⟩ : Spot)) ∧ (¬ ((t0.quarter % 4) = 1) → (((t0.quarter % 4) = 2 → r0 = (⟨(IntKind.wrap .i64 (-s1.x)), (IntKind.wrap .i64 (-s1.y))⟩ : Spot)) ∧ (¬ ((t0.quarter % 4) = 2) → (((t0.quarter % 4) = 3 → r0 = (⟨s1.y, (IntKind.wrap .i64 (-s1.x))⟩ : Spot)) ∧ (¬ ((t0.quarter % 4) = 3) → r0 = s1))))))))
theorem turn_Apply_W (t0 : Turn) (s1 : Spot) (r0 : Spot) (h : turn_Apply_V t0 s1 r0) : Ret Tryd.prog XS 21 [.agg [boo t0.flip, int t0.quarter], .agg [int s1.x, int s1.y]] (.agg [int r0.x, int r0.y]) := by
  refine fn_rule Tryd.func21 (by kernel_rfl) (by kernel_rfl) (by kernel_rfl) (by kernel_rfl) ?_
  rcases Bool.eq_false_or_eq_true t0.flip with c1 | c1
  · have h := h.1 c1
    obtain ⟨c2, h⟩ := h
    have g_1 := (onegw .i64 s1.x)
    have g_2 := (oand3 Tryd.prog 3 (wi64 c2))
    have e_3 := fun {o : Orc} {q : List Prop} (r : At o q) => (d11 (abt c1) (d11 g_1 (d11 g_2 r)))
    by_cases c3 : (t0.quarter % 4) = 1
    · have h := h.1 c3
      have g_4 := (abt (beq_t c3))
      have g_5 := (onegw .i64 s1.y)
      rw [h]
      exact sr (ids := []) (vs := [.agg [int (IntKind.wrap .i64 (-s1.y)), int (IntKind.wrap .i64 (-s1.x))]]) (mem := []) (e_3 (d11 g_4 (d11 g_5 az))) (by kernel_rfl) (by kernel_rfl) (rts_agg (rcs_sc (rcs_sc (rcs_nil rfl))))
    · have h := h.2 c3
      have g_6 := (abf (beq_f c3))
      by_cases c4 : (t0.quarter % 4) = 2
      · have h := h.1 c4
        have g_7 := (abt (beq_t c4))
        have g_8 := (onegw .i64 (IntKind.wrap .i64 (-s1.x)))
        have g_9 := (onegw .i64 s1.y)
        rw [h]
        exact sr (ids := []) (vs := [.agg [int (IntKind.wrap .i64 (-(IntKind.wrap .i64 (-s1.x)))), int (IntKind.wrap .i64 (-s1.y))]]) (mem := []) (e_3 (d11 g_6 (d11 g_7 (d11 g_8 (d11 g_9 az))))) (by kernel_rfl) (by kernel_rfl) (rts_agg (rcs_sc (rcs_sc (rcs_nil rfl))))
      · have h := h.2 c4
        have g_10 := (abf (beq_f c4))
        by_cases c5 : (t0.quarter % 4) = 3
        · have h := h.1 c5
          have g_11 := (abt (beq_t c5))
          have g_12 := (onegw .i64 (IntKind.wrap .i64 (-s1.x)))
          rw [h]
          exact sr (ids := []) (vs := [.agg [int s1.y, int (IntKind.wrap .i64 (-(IntKind.wrap .i64 (-s1.x))))]]) (mem := []) (e_3 (d11 g_6 (d11 g_10 (d11 g_11 (d11 g_12 az))))) (by kernel_rfl) (by kernel_rfl) (rts_agg (rcs_sc (rcs_sc (rcs_nil rfl))))
        · have h := h.2 c5
          have g_13 := (abf (beq_f c5))
          rw [h]
          exact sr (ids := []) (vs := [.agg [int (IntKind.wrap .i64 (-s1.x)), int s1.y]]) (mem := []) (e_3 (d11 g_6 (d11 g_10 (d11 g_13 az)))) (by kernel_rfl) (by kernel_rfl) (rts_agg (rcs_sc (rcs_sc (rcs_nil rfl))))
  · have h := h.2 c1
    obtain ⟨c2, h⟩ := h
    have g_14 := (oand3 Tryd.prog 3 (wi64 c2))
    have e_15 := fun {o : Orc} {q : List Prop} (r : At o q) => (d11 (abf c1) (d11 g_14 r))
    by_cases c3 : (t0.quarter % 4) = 1
    · have h := h.1 c3
      have g_16 := (abt (beq_t c3))
      have g_17 := (onegw .i64 s1.y)
      rw [h]
      exact sr (ids := []) (vs := [.agg [int (IntKind.wrap .i64 (-s1.y)), int s1.x]]) (mem := []) (e_15 (d11 g_16 (d11 g_17 az))) (by kernel_rfl) (by kernel_rfl) (rts_agg (rcs_sc (rcs_sc (rcs_nil rfl))))
    · have h := h.2 c3
      have g_18 := (abf (beq_f c3))
      by_cases c4 : (t0.quarter % 4) = 2
      · have h := h.1 c4
        have g_19 := (abt (beq_t c4))
        have g_20 := (onegw .i64 s1.x)
        have g_21 := (onegw .i64 s1.y)
        rw [h]
        exact sr (ids := []) (vs := [.agg [int (IntKind.wrap .i64 (-s1.x)), int (IntKind.wrap .i64 (-s1.y))]]) (mem := []) (e_15 (d11 g_18 (d11 g_19 (d11 g_20 (d11 g_21 az))))) (by kernel_rfl) (by kernel_rfl) (rts_agg (rcs_sc (rcs_sc (rcs_nil rfl))))
      · have h := h.2 c4
        have g_22 := (abf (beq_f c4))
        by_cases c5 : (t0.quarter % 4) = 3
        · have h := h.1 c5
          have g_23 := (abt (beq_t c5))
          have g_24 := (onegw .i64 s1.x)
          rw [h]
          exact sr (ids := []) (vs := [.agg [int s1.y, int (IntKind.wrap .i64 (-s1.x))]]) (mem := []) (e_15 (d11 g_18 (d11 g_22 (d11 g_23 (d11 g_24 az))))) (by kernel_rfl) (by kernel_rfl) (rts_agg (rcs_sc (rcs_sc (rcs_nil rfl))))
        · have h := h.2 c5
          have g_25 := (abf (beq_f c5))
          rw [h]
          exact sr (ids := []) (vs := [.agg [int s1.x, int s1.y]]) (mem := []) (e_15 (d11 g_18 (d11 g_22 (d11 g_25 az)))) (by kernel_rfl) (by kernel_rfl) (rts_agg (rcs_sc (rcs_sc (rcs_nil rfl))))

-- seam.move
def seam_move_S0 (listappend : List Spot) (a : List Spot) (v29 : Int) : AS := ⟨[(0, .sl 2 (listappend.map cSpot)), (1, .sl 2 (a.map cSpot)), (4, .ptr 0 0 0), (6, .ptr 1 0 0), (28, int ((listappend.length : Nat) : Int)), (29, int v29)], [(0, .box [int 0, int 0]), (1, .box [int (IntKind.wrap .i64 ((ai a 0).x - (ai listappend 0).x)), int (IntKind.wrap .i64 ((ai a 0).y - (ai listappend 0).y))])], 2⟩
abbrev seam_move_V (listappend : List Spot) (a : List Spot) (r0 : Spot) (r1 : Bool) (I0 : Int → Prop) (M0 : Int → Nat) : Prop := (Idx 0 a.length) ∧ (Idx 0 listappend.length) ∧ I0 0
abbrev seam_move_V0 (listappend : List Spot) (a : List Spot) (r0 : Spot) (r1 : Bool) (I0 : Int → Prop) (M0 : Int → Nat) (v29 : Int) : Prop := ((v29 < ((listappend.length : Nat) : Int) → (Idx v29 listappend.length) ∧ (Idx v29 a.length) ∧ (((IntKind.wrap .i64 ((ai listappend v29).x + (IntKind.wrap .i64 ((ai a 0).x - (ai listappend 0).x)))) = (ai a v29).x → (((IntKind.wrap .i64 ((ai listappend v29).y + (IntKind.wrap .i64 ((ai a 0).y - (ai listappend 0).y)))) = (ai a v29).y → (InR (v29 + 1)) ∧ I0 (v29 + 1) ∧ M0 (v29 + 1) < M0 v29) ∧ (¬ ((IntKind.wrap .i64 ((ai listappend v29).y + (IntKind.wrap .i64 ((ai a 0).y - (ai listappend 0).y)))) = (ai a v29).y) → r0 = (⟨0, 0⟩ : Spot) ∧ r1 = false))) ∧ (¬ ((IntKind.wrap .i64 ((ai listappend v29).x + (IntKind.wrap .i64 ((ai a 0).x - (ai listappend 0).x)))) = (ai a v29).x) → r0 = (⟨0, 0⟩ : Spot) ∧ r1 = false))) ∧ (¬ (v29 < ((listappend.length : Nat) : Int)) → r0 = (⟨(IntKind.wrap .i64 ((ai a 0).x - (ai listappend 0).x)), (IntKind.wrap .i64 ((ai a 0).y - (ai listappend 0).y))⟩ : Spot) ∧ r1 = true))
theorem seam_move_W0 (listappend : List Spot) (a : List Spot) (r0 : Spot) (r1 : Bool) (I0 : Int → Prop) (M0 : Int → Nat) (h0 : ∀ (v29 : Int), I0 v29 → seam_move_V0 listappend a r0 r1 I0 M0 v29) : ∀ (x : Int), I0 x → loopQ Tryd.prog XS Tryd.f28 0 (.tup [.agg [int r0.x, int r0.y], boo r1]) [] (seam_move_S0 listappend a x) := by
  intro x0 hx0
  refine loop_rule (fun (x : Int) => I0 x) (fun (x : Int) => M0 x) (fun (x : Int) => seam_move_S0 listappend a x) x0 hx0 ?_
  intro v29 hx
  have h := h0 v29 hx
  clear hx hx0 x0
  by_cases c1 : v29 < ((listappend.length : Nat) : Int)
  · have h := h.1 c1
    obtain ⟨c2, c3, h⟩ := h
    have g_1 := (oidx cSpot c2)
    have g_2 := (oidx cSpot c3)
    have e_3 := fun {o : Orc} {q : List Prop} (r : At o q) => (d11 (abt (dec_t c1)) (d11 g_1 (d11 (oaddw Tryd.prog 3 .i64 ((ai listappend v29).x) (IntKind.wrap .i64 ((ai a 0).x - (ai listappend 0).x))) (d11 g_2 r))))
    by_cases c4 : (IntKind.wrap .i64 ((ai listappend v29).x + (IntKind.wrap .i64 ((ai a 0).x - (ai listappend 0).x)))) = (ai a v29).x
    · have h := h.1 c4
      have g_4 := (abf (bne_f c4))
      have e_5 := fun {o : Orc} {q : List Prop} (r : At o q) => (d11 g_4 (d11 g_4 (d11 g_4 (d11 g_1 (d11 g_4 (d11 g_4 (d11 g_4 (d11 g_4 (d11 g_4 (d11 (oaddw Tryd.prog 3 .i64 ((ai listappend v29).y) (IntKind.wrap .i64 ((ai a 0).y - (ai listappend 0).y))) (d11 g_4 (d11 g_4 (d11 g_4 (d11 g_2 (d11 g_4 (d11 g_4 (d11 g_4 (d11 g_4 r))))))))))))))))))
      by_cases c5 : (IntKind.wrap .i64 ((ai listappend v29).y + (IntKind.wrap .i64 ((ai a 0).y - (ai listappend 0).y)))) = (ai a v29).y
      · have h := h.1 c5
        obtain ⟨c6, h⟩ := h
        exact sb (ts := [0, 1, 4, 6, 28, 29]) (ids := [0, 1]) (d := 0) (s0 := ⟨[(0, .sl 2 (listappend.map cSpot)), (1, .sl 2 (a.map cSpot)), (4, .ptr 0 0 0), (6, .ptr 1 0 0), (28, int ((listappend.length : Nat) : Int)), (29, int (v29 + 1))], [(0, .box [int 0, int 0]), (1, .box [int (IntKind.wrap .i64 ((ai a 0).x - (ai listappend 0).x)), int (IntKind.wrap .i64 ((ai a 0).y - (ai listappend 0).y))])], 2⟩) (e_3 (e_5 (d11 (abf (bne_f c5)) (d11 (oadd Tryd.prog 3 (wi64 c6)) az)))) (by kernel_rfl) (by kernel_rfl) rfl (v29 + 1) h.1 h.2 (Weak.anew [(0, some 0), (1, some 1)] (by rfl) (wt_cons rfl wk_sl (wt_cons rfl wk_sl (wt_cons rfl (wk_ptr rfl) (wt_cons rfl (wk_ptr rfl) (wt_cons rfl wk_sc (wt_cons rfl wk_sc wt_nil)))))) (wm_box rfl rfl (wl_cons wk_sc (wl_cons wk_sc wl_nil)) (wm_box rfl rfl (wl_cons wk_sc (wl_cons wk_sc wl_nil)) wm_nil)))
      · have h := h.2 c5
        rw [h.1, h.2]
        exact sr (ids := []) (vs := [.agg [int 0, int 0], boo false]) (mem := []) (e_3 (e_5 (d11 (abt (bne_t c5)) az))) (by kernel_rfl) (by kernel_rfl) (rts_agg (rcs_sc (rcs_sc (rcs_nil (rts_sc rfl)))))
    · have h := h.2 c4
      have g_6 := (abt (bne_t c4))
      rw [h.1, h.2]
      exact sr (ids := []) (vs := [.agg [int 0, int 0], boo false]) (mem := []) (e_3 (d11 g_6 (d11 g_6 (d11 g_6 (d11 g_6 (d11 g_6 (d11 g_6 (d11 g_6 (d11 g_6 (d11 g_6 (d11 g_6 (d11 g_6 (d11 g_6 (d11 g_6 (d11 g_6 (d11 g_6 (d11 abtt az))))))))))))))))) (by kernel_rfl) (by kernel_rfl) (rts_agg (rcs_sc (rcs_sc (rcs_nil (rts_sc rfl)))))
  · have h := h.2 c1
    rw [h.1, h.2]
    exact sr (ids := []) (vs := [.agg [int (IntKind.wrap .i64 ((ai a 0).x - (ai listappend 0).x)), int (IntKind.wrap .i64 ((ai a 0).y - (ai listappend 0).y))], boo true]) (mem := []) (d11 (abf (dec_f c1)) az) (by kernel_rfl) (by kernel_rfl) (rts_agg (rcs_sc (rcs_sc (rcs_nil (rts_sc rfl)))))
theorem seam_move_W (listappend : List Spot) (a : List Spot) (r0 : Spot) (r1 : Bool) (I0 : Int → Prop) (M0 : Int → Nat) (h : seam_move_V listappend a r0 r1 I0 M0) (h0 : ∀ (v29 : Int), I0 v29 → seam_move_V0 listappend a r0 r1 I0 M0 v29) : Ret Tryd.prog XS 28 [.sl 2 (listappend.map cSpot), .sl 2 (a.map cSpot)] (.tup [.agg [int r0.x, int r0.y], boo r1]) := by
  refine fn_rule Tryd.func28 (by kernel_rfl) (by kernel_rfl) (by kernel_rfl) (by kernel_rfl) ?_
  obtain ⟨c1, c2, h⟩ := h
  have g_7 := (oidx cSpot c1)
  have g_8 := (oidx cSpot c2)
  exact sl (ts := [0, 1, 4, 6, 28, 29]) (ids := [0, 1]) (d := 0) (s0 := ⟨[(0, .sl 2 (listappend.map cSpot)), (1, .sl 2 (a.map cSpot)), (4, .ptr 0 0 0), (6, .ptr 1 0 0), (28, int ((listappend.length : Nat) : Int)), (29, int 0)], [(0, .box [int 0, int 0]), (1, .box [int (IntKind.wrap .i64 ((ai a 0).x - (ai listappend 0).x)), int (IntKind.wrap .i64 ((ai a 0).y - (ai listappend 0).y))])], 2⟩) (d11 g_7 (d11 g_8 (d11 (osubw Tryd.prog 3 .i64 ((ai a 0).x) ((ai listappend 0).x)) (d11 g_7 (d11 g_8 (d11 (osubw Tryd.prog 3 .i64 ((ai a 0).y) ((ai listappend 0).y)) (d11 (olen cSpot Tryd.prog 29 2 listappend (by kernel_rfl)) az))))))) (by kernel_rfl) (by kernel_rfl) (Weak.anew [(0, some 0), (1, some 1)] (by rfl) (wt_cons rfl wk_sl (wt_cons rfl wk_sl (wt_cons rfl (wk_ptr rfl) (wt_cons rfl (wk_ptr rfl) (wt_cons rfl wk_sc (wt_cons rfl wk_sc wt_nil)))))) (wm_box rfl rfl (wl_cons wk_sc (wl_cons wk_sc wl_nil)) (wm_box rfl rfl (wl_cons wk_sc (wl_cons wk_sc wl_nil)) wm_nil))) (seam_move_W0 listappend a r0 r1 I0 M0 h0 0 h)

-- garmentref22.Congruent
end Go.Ab
end

section
namespace Go.Ab
open Go.Proofs
set_option maxRecDepth 1000000
set_option linter.unusedVariables false
attribute [local irreducible] todoQ
-- garmentref22.image
-- garmentref12.Apply
def garmentref12_Apply_S0 (t0 : Turn) (s1 : Spot) (norm1 : Turn) (i7 : Int) (out5 : Spot) : AS := ⟨[(4, .ptr 0 0 0), (5, .ptr 1 0 0), (6, .ptr 2 0 0), (7, int i7)], [(0, .box [int 0, int 0]), (1, .box [int out5.x, int out5.y]), (2, .box [boo norm1.flip, int norm1.quarter])], 3⟩
abbrev garmentref12_Apply_V (t0 : Turn) (s1 : Spot) (r0 : Spot) (I0 : Turn → Int → Spot → Prop) (M0 : Turn → Int → Spot → Nat) : Prop := ((t0.flip = true → (∃ (norm1 : Turn), Ret Tryd.prog XS 38 [.agg [boo t0.flip, int t0.quarter]] (.agg [boo norm1.flip, int norm1.quarter]) ∧ I0 norm1 0 (⟨(IntKind.wrap .i64 (-s1.x)), s1.y⟩ : Spot))) ∧ (t0.flip = false → (∃ (norm1 : Turn), Ret Tryd.prog XS 38 [.agg [boo t0.flip, int t0.quarter]] (.agg [boo norm1.flip, int norm1.quarter]) ∧ I0 norm1 0 s1)))
abbrev garmentref12_Apply_V0 (t0 : Turn) (s1 : Spot) (r0 : Spot) (I0 : Turn → Int → Spot → Prop) (M0 : Turn → Int → Spot → Nat) (norm1 : Turn) (i7 : Int) (out5 : Spot) : Prop := ((i7 < norm1.quarter → (InR (i7 + 1)) ∧ I0 norm1 (i7 + 1) (⟨(IntKind.wrap .i64 (-out5.y)), out5.x⟩ : Spot) ∧ M0 norm1 (i7 + 1) (⟨(IntKind.wrap .i64 (-out5.y)), out5.x⟩ : Spot) < M0 norm1 i7 out5) ∧ (¬ (i7 < norm1.quarter) → r0 = out5))
theorem garmentref12_Apply_W0 (t0 : Turn) (s1 : Spot) (r0 : Spot) (I0 : Turn → Int → Spot → Prop) (M0 : Turn → Int → Spot → Nat) (h0 : ∀ (norm1 : Turn) (i7 : Int) (out5 : Spot), I0 norm1 i7 out5 → garmentref12_Apply_V0 t0 s1 r0 I0 M0 norm1 i7 out5) (norm1 : Turn) : ∀ (x : Int × Spot), I0 norm1 x.1 x.2 → loopQ Tryd.prog XS Tryd.f23 0 (.agg [int r0.x, int r0.y]) [] (garmentref12_Apply_S0 t0 s1 norm1 x.1 x.2) := by
  intro x0 hx0
  refine loop_rule (fun (x : Int × Spot) => I0 norm1 x.1 x.2) (fun (x : Int × Spot) => M0 norm1 x.1 x.2) (fun (x : Int × Spot) => garmentref12_Apply_S0 t0 s1 norm1 x.1 x.2) x0 hx0 ?_
  rintro ⟨i7, out5⟩ hx
  have h := h0 norm1 i7 out5 hx
  clear hx hx0 x0
  by_cases c1 : i7 < norm1.quarter
  · have h := h.1 c1
    obtain ⟨c2, h⟩ := h
    exact sb (ts := [4, 5, 6, 7]) (ids := [0, 1, 2]) (d := 0) (s0 := ⟨[(4, .ptr 0 0 0), (5, .ptr 1 0 0), (6, .ptr 2 0 0), (7, int (i7 + 1))], [(0, .box [int 0, int 0]), (1, .box [int (IntKind.wrap .i64 (-out5.y)), int out5.x]), (2, .box [boo norm1.flip, int norm1.quarter])], 3⟩) (d11 (abt (dec_t c1)) (d11 (onegw .i64 out5.y) (d11 (oadd Tryd.prog 3 (wi64 c2)) az))) (by kernel_rfl) (by kernel_rfl) rfl ((i7 + 1), (⟨(IntKind.wrap .i64 (-out5.y)), out5.x⟩ : Spot)) h.1 h.2 (Weak.anew [(0, some 0), (1, some 1), (2, some 2)] (by rfl) (wt_cons rfl (wk_ptr rfl) (wt_cons rfl (wk_ptr rfl) (wt_cons rfl (wk_ptr rfl) (wt_cons rfl wk_sc wt_nil)))) (wm_box rfl rfl (wl_cons wk_sc (wl_cons wk_sc wl_nil)) (wm_box rfl rfl (wl_cons wk_sc (wl_cons wk_sc wl_nil)) (wm_box rfl rfl (wl_cons wk_sc (wl_cons wk_sc wl_nil)) wm_nil))))
  · have h := h.2 c1
    rw [h]
    exact sr (ids := []) (vs := [.agg [int out5.x, int out5.y]]) (mem := []) (d11 (abf (dec_f c1)) az) (by kernel_rfl) (by kernel_rfl) (rts_agg (rcs_sc (rcs_sc (rcs_nil rfl))))
theorem garmentref12_Apply_W (t0 : Turn) (s1 : Spot) (r0 : Spot) (I0 : Turn → Int → Spot → Prop) (M0 : Turn → Int → Spot → Nat) (h : garmentref12_Apply_V t0 s1 r0 I0 M0) (h0 : ∀ (norm1 : Turn) (i7 : Int) (out5 : Spot), I0 norm1 i7 out5 → garmentref12_Apply_V0 t0 s1 r0 I0 M0 norm1 i7 out5) : Ret Tryd.prog XS 23 [.agg [boo t0.flip, int t0.quarter], .agg [int s1.x, int s1.y]] (.agg [int r0.x, int r0.y]) := by
  refine fn_rule Tryd.func23 (by kernel_rfl) (by kernel_rfl) (by kernel_rfl) (by kernel_rfl) ?_
  rcases Bool.eq_false_or_eq_true t0.flip with c1 | c1
  · have h := h.1 c1
    obtain ⟨norm1, c2, h⟩ := h
    exact sl (ts := [4, 5, 6, 7]) (ids := [2, 3, 4]) (d := 0) (s0 := ⟨[(4, .ptr 2 0 0), (5, .ptr 3 0 0), (6, .ptr 4 0 0), (7, int 0)], [(2, .box [int 0, int 0]), (3, .box [int (IntKind.wrap .i64 (-s1.x)), int s1.y]), (4, .box [boo norm1.flip, int norm1.quarter])], 5⟩) (d11 (abt c1) (d11 (onegw .i64 s1.x) (d11 (ocs c2) az))) (by kernel_rfl) (by kernel_rfl) (Weak.anew [(0, some 2), (1, some 3), (2, some 4)] (by rfl) (wt_cons rfl (wk_ptr rfl) (wt_cons rfl (wk_ptr rfl) (wt_cons rfl (wk_ptr rfl) (wt_cons rfl wk_sc wt_nil)))) (wm_box rfl rfl (wl_cons wk_sc (wl_cons wk_sc wl_nil)) (wm_box rfl rfl (wl_cons wk_sc (wl_cons wk_sc wl_nil)) (wm_box rfl rfl (wl_cons wk_sc (wl_cons wk_sc wl_nil)) wm_nil)))) (garmentref12_Apply_W0 t0 s1 r0 I0 M0 h0 norm1 (0, (⟨(IntKind.wrap .i64 (-s1.x)), s1.y⟩ : Spot)) h)
  · have h := h.2 c1
    obtain ⟨norm1, c2, h⟩ := h
    exact sl (ts := [4, 5, 6, 7]) (ids := [2, 3, 4]) (d := 0) (s0 := ⟨[(4, .ptr 2 0 0), (5, .ptr 3 0 0), (6, .ptr 4 0 0), (7, int 0)], [(2, .box [int 0, int 0]), (3, .box [int s1.x, int s1.y]), (4, .box [boo norm1.flip, int norm1.quarter])], 5⟩) (d11 (abf c1) (d11 (ocs c2) az)) (by kernel_rfl) (by kernel_rfl) (Weak.anew [(0, some 2), (1, some 3), (2, some 4)] (by rfl) (wt_cons rfl (wk_ptr rfl) (wt_cons rfl (wk_ptr rfl) (wt_cons rfl (wk_ptr rfl) (wt_cons rfl wk_sc wt_nil)))) (wm_box rfl rfl (wl_cons wk_sc (wl_cons wk_sc wl_nil)) (wm_box rfl rfl (wl_cons wk_sc (wl_cons wk_sc wl_nil)) (wm_box rfl rfl (wl_cons wk_sc (wl_cons wk_sc wl_nil)) wm_nil)))) (garmentref12_Apply_W0 t0 s1 r0 I0 M0 h0 norm1 (0, s1) h)

-- garmentref12.Norm
abbrev garmentref12_Norm_V (t0 : Turn) (r0 : Turn) : Prop := (((t0.quarter.tmod 4) < 0 → (InR ((t0.quarter.tmod 4) + 4)) ∧ r0 = (⟨t0.flip, ((t0.quarter.tmod 4) + 4)⟩ : Turn)) ∧ (¬ ((t0.quarter.tmod 4) < 0) → r0 = (⟨t0.flip, (t0.quarter.tmod 4)⟩ : Turn)))
theorem garmentref12_Norm_W (t0 : Turn) (r0 : Turn) (h : garmentref12_Norm_V t0 r0) : Ret Tryd.prog XS 38 [.agg [boo t0.flip, int t0.quarter]] (.agg [boo r0.flip, int r0.quarter]) := by
  refine fn_rule Tryd.func38 (by kernel_rfl) (by kernel_rfl) (by kernel_rfl) (by kernel_rfl) ?_
  have e_1 := fun {o : Orc} {q : List Prop} (r : At o q) => (d11 (orem Tryd.prog 3 .i64 t0.quarter 4 (by decide)) r)
  by_cases c1 : (t0.quarter.tmod 4) < 0
  · have h := h.1 c1
    obtain ⟨c2, h⟩ := h
    rw [h]
    exact sr (ids := []) (vs := [.agg [boo t0.flip, int ((t0.quarter.tmod 4) + 4)]]) (mem := []) (e_1 (d11 (abt (dec_t c1)) (d11 (oadd Tryd.prog 3 (wi64 c2)) az))) (by kernel_rfl) (by kernel_rfl) (rts_agg (rcs_sc (rcs_sc (rcs_nil rfl))))
  · have h := h.2 c1
    rw [h]
    exact sr (ids := []) (vs := [.agg [boo t0.flip, int (t0.quarter.tmod 4)]]) (mem := []) (e_1 (d11 (abf (dec_f c1)) az)) (by kernel_rfl) (by kernel_rfl) (rts_agg (rcs_sc (rcs_sc (rcs_nil rfl))))

-- garmentlaw22.light
-- garmentref21.Light
end Go.Ab
end
