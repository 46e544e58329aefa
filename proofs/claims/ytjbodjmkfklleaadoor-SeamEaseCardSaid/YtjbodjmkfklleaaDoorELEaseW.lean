/- A part of the proof. Conditions: those of each theorem. -/
import Derived.Test.YtjbodjmkfklleaaDoorETy
import Derived.Test.YtjbodjmkfklleaaDoorEWall
set_option linter.unusedVariables false
set_option linter.unusedSimpArgs false
set_option linter.unusedSectionVars false

section
namespace Go.Ab
open Go.Proofs
set_option maxRecDepth 1000000
set_option linter.unusedVariables false
attribute [local irreducible] todoQ
-- garmentlaw22.SeamEase
def garmentlaw22_SeamEase_S0 (listappend : Style) (a : Int) (unfit2a : List Int) (v7 : Int) (v8 : Int) : AS := ⟨[(1, int a), (2, .ptr 0 0 0), (5, .own 1 0 unfit2a.length), (7, int v7), (8, int v8)], [(0, .box [str listappend.name, .sl 1 (listappend.sizes.map cS), .sl 1 (listappend.multiples.map cI), .sl 7 (listappend.pieces.map cPiece), .sl 3 (listappend.uses.map cUseOf), .sl 6 (listappend.seams.map cSeam), .sl 5 (listappend.ops.map cOperation)]), (1, .row 1 (unfit2a.map cI))], 2⟩
abbrev garmentlaw22_SeamEase_V (listappend : Style) (a : Int) (r0 : Bool) (I0 : (List Int) → Int → Int → Prop) (M0 : (List Int) → Int → Int → Nat) : Prop := (∃ (light1 : Bool), Ret Tryd.prog XS 15 [.agg [str listappend.name, .sl 1 (listappend.sizes.map cS), .sl 1 (listappend.multiples.map cI), .sl 7 (listappend.pieces.map cPiece), .sl 3 (listappend.uses.map cUseOf), .sl 6 (listappend.seams.map cSeam), .sl 5 (listappend.ops.map cOperation)]] (boo light1) ∧ ((light1 = true → (∃ (unfit2a : List Int) (unfit2b : Int), Ret Tryd.prog XS 17 [.agg [str listappend.name, .sl 1 (listappend.sizes.map cS), .sl 1 (listappend.multiples.map cI), .sl 7 (listappend.pieces.map cPiece), .sl 3 (listappend.uses.map cUseOf), .sl 6 (listappend.seams.map cSeam), .sl 5 (listappend.ops.map cOperation)], int a] (.tup [.fr 1 (unfit2a.map cI), int unfit2b]) ∧ ((unfit2b = 0 → I0 unfit2a 0 0) ∧ (¬ (unfit2b = 0) → ((((unfit2a.length : Nat) : Int) = 0 → (∃ (alive3 : Bool), Ret Tryd.prog XS 12 [] (boo alive3) ∧ r0 = alive3)) ∧ (¬ (((unfit2a.length : Nat) : Int) = 0) → r0 = false)))))) ∧ (light1 = false → (∃ (alive2 : Bool), Ret Tryd.prog XS 12 [] (boo alive2) ∧ r0 = alive2))))
abbrev garmentlaw22_SeamEase_V0 (listappend : Style) (a : Int) (r0 : Bool) (I0 : (List Int) → Int → Int → Prop) (M0 : (List Int) → Int → Int → Nat) (unfit2a : List Int) (v7 : Int) (v8 : Int) : Prop := ((v8 < ((listappend.seams.length : Nat) : Int) → (∃ (lengths1a : Int) (lengths1b : Int) (lengths1c : Int), Ret Tryd.prog XS 16 [.agg [str listappend.name, .sl 1 (listappend.sizes.map cS), .sl 1 (listappend.multiples.map cI), .sl 7 (listappend.pieces.map cPiece), .sl 3 (listappend.uses.map cUseOf), .sl 6 (listappend.seams.map cSeam), .sl 5 (listappend.ops.map cOperation)], int a, int v8] (.tup [int lengths1a, int lengths1b, int lengths1c]) ∧ ((lengths1c = 0 → (InR (lengths1a - lengths1b)) ∧ (InR (lengths1b - lengths1a)) ∧ (Idx v8 listappend.seams.length) ∧ (((max (lengths1a - lengths1b) (lengths1b - lengths1a)) > (ai listappend.seams v8).ease → ((v7 ≥ ((unfit2a.length : Nat) : Int) → r0 = false) ∧ (¬ (v7 ≥ ((unfit2a.length : Nat) : Int)) → (Idx v7 unfit2a.length) ∧ (((ai unfit2a v7) = v8 → (InR (v7 + 1)) ∧ (InR (v8 + 1)) ∧ I0 unfit2a (v7 + 1) (v8 + 1) ∧ M0 unfit2a (v7 + 1) (v8 + 1) < M0 unfit2a v7 v8) ∧ (¬ ((ai unfit2a v7) = v8) → r0 = false))))) ∧ (¬ ((max (lengths1a - lengths1b) (lengths1b - lengths1a)) > (ai listappend.seams v8).ease) → (InR (v8 + 1)) ∧ I0 unfit2a v7 (v8 + 1) ∧ M0 unfit2a v7 (v8 + 1) < M0 unfit2a v7 v8))) ∧ (¬ (lengths1c = 0) → r0 = false)))) ∧ (¬ (v8 < ((listappend.seams.length : Nat) : Int)) → ((v7 = ((unfit2a.length : Nat) : Int) → (∃ (alive1 : Bool), Ret Tryd.prog XS 12 [] (boo alive1) ∧ r0 = alive1)) ∧ (¬ (v7 = ((unfit2a.length : Nat) : Int)) → r0 = false))))
theorem garmentlaw22_SeamEase_W0 (listappend : Style) (a : Int) (r0 : Bool) (I0 : (List Int) → Int → Int → Prop) (M0 : (List Int) → Int → Int → Nat) (h0 : ∀ (unfit2a : List Int) (v7 : Int) (v8 : Int), I0 unfit2a v7 v8 → garmentlaw22_SeamEase_V0 listappend a r0 I0 M0 unfit2a v7 v8) (unfit2a : List Int) : ∀ (x : Int × Int), I0 unfit2a x.1 x.2 → loopQ Tryd.prog XS Tryd.f9 0 (boo r0) [] (garmentlaw22_SeamEase_S0 listappend a unfit2a x.1 x.2) := by
  intro x0 hx0
  refine loop_rule (fun (x : Int × Int) => I0 unfit2a x.1 x.2) (fun (x : Int × Int) => M0 unfit2a x.1 x.2) (fun (x : Int × Int) => garmentlaw22_SeamEase_S0 listappend a unfit2a x.1 x.2) x0 hx0 ?_
  rintro ⟨v7, v8⟩ hx
  have h := h0 unfit2a v7 v8 hx
  clear hx hx0 x0
  have e_1 := fun {o : Orc} {q : List Prop} (r : At o q) => (d11 (olen cSeam Tryd.prog 43 6 listappend.seams (by kernel_rfl)) r)
  by_cases c1 : v8 < ((listappend.seams.length : Nat) : Int)
  · have h := h.1 c1
    obtain ⟨lengths1a, lengths1b, lengths1c, c2, h⟩ := h
    have e_2 := fun {o : Orc} {q : List Prop} (r : At o q) => (d11 (abt (dec_t c1)) (d11 (ocs c2) r))
    by_cases c3 : lengths1c = 0
    · have h := h.1 c3
      obtain ⟨c4, c5, c6, h⟩ := h
      have e_3 := fun {o : Orc} {q : List Prop} (r : At o q) => (d11 (abf (bne_f c3)) (d11 (osub Tryd.prog 3 (wi64 c4)) (d11 (osub Tryd.prog 3 (wi64 c5)) (d11 (omax .i64 (lengths1a - lengths1b) (lengths1b - lengths1a)) (d11 (oidx cSeam c6) r)))))
      by_cases c7 : (max (lengths1a - lengths1b) (lengths1b - lengths1a)) > (ai listappend.seams v8).ease
      · have h := h.1 c7
        have g_4 := (oleno Tryd.prog 40 1 0 unfit2a.length unfit2a.length rfl (by kernel_rfl))
        have e_5 := fun {o : Orc} {q : List Prop} (r : At o q) => (d11 (abt (dec_t c7)) (d11 g_4 r))
        by_cases c8 : v7 ≥ ((unfit2a.length : Nat) : Int)
        · have h := h.1 c8
          have g_6 := (abt (dec_t c8))
          rw [h]
          exact sr (ids := []) (vs := [boo false]) (mem := []) (e_1 (e_2 (e_3 (e_5 (d11 g_6 (d11 g_6 (d11 g_6 (d11 g_6 (d11 g_6 (d11 g_6 (d11 g_6 (d11 abtt az)))))))))))) (by kernel_rfl) (by kernel_rfl) (rts_sc rfl)
        · have h := h.2 c8
          obtain ⟨c9, h⟩ := h
          have g_7 := (abf (dec_f c8))
          have e_8 := fun {o : Orc} {q : List Prop} (r : At o q) => (d11 g_7 (d11 g_7 (d11 g_7 (d01 (oown cI (n := unfit2a.length) rfl c9) (d11 g_7 (d11 (orow cI c9) (d11 g_7 (d11 g_7 (d11 g_7 r)))))))))
          by_cases c10 : (ai unfit2a v7) = v8
          · have h := h.1 c10
            obtain ⟨c11, c12, h⟩ := h
            exact sb (ts := [1, 2, 5, 7, 8]) (ids := [0, 1]) (d := 0) (s0 := ⟨[(1, int a), (2, .ptr 0 0 0), (5, .own 1 0 unfit2a.length), (7, int (v7 + 1)), (8, int (v8 + 1))], [(0, .box [str listappend.name, .sl 1 (listappend.sizes.map cS), .sl 1 (listappend.multiples.map cI), .sl 7 (listappend.pieces.map cPiece), .sl 3 (listappend.uses.map cUseOf), .sl 6 (listappend.seams.map cSeam), .sl 5 (listappend.ops.map cOperation)]), (1, .row 1 (unfit2a.map cI))], 2⟩) (e_1 (e_2 (e_3 (e_5 (e_8 (d11 (abf (bne_f c10)) (d11 (oadd Tryd.prog 3 (wi64 c11)) (d11 (oadd Tryd.prog 3 (wi64 c12)) az)))))))) (by kernel_rfl) (by kernel_rfl) rfl ((v7 + 1), (v8 + 1)) h.1 h.2 (Weak.anew [(0, some 0), (1, some 1)] (by rfl) (wt_cons rfl wk_sc (wt_cons rfl (wk_ptr rfl) (wt_cons rfl (wk_own rfl rfl) (wt_cons rfl wk_sc (wt_cons rfl wk_sc wt_nil))))) (wm_box rfl rfl (wl_cons wk_sc (wl_cons wk_sl (wl_cons wk_sl (wl_cons wk_sl (wl_cons wk_sl (wl_cons wk_sl (wl_cons wk_sl wl_nil))))))) (wm_row rfl rfl wm_nil)))
          · have h := h.2 c10
            rw [h]
            exact sr (ids := []) (vs := [boo false]) (mem := []) (e_1 (e_2 (e_3 (e_5 (e_8 (d11 (abt (bne_t c10)) az)))))) (by kernel_rfl) (by kernel_rfl) (rts_sc rfl)
      · have h := h.2 c7
        obtain ⟨c8, h⟩ := h
        exact sb (ts := [1, 2, 5, 7, 8]) (ids := [0, 1]) (d := 0) (s0 := ⟨[(1, int a), (2, .ptr 0 0 0), (5, .own 1 0 unfit2a.length), (7, int v7), (8, int (v8 + 1))], [(0, .box [str listappend.name, .sl 1 (listappend.sizes.map cS), .sl 1 (listappend.multiples.map cI), .sl 7 (listappend.pieces.map cPiece), .sl 3 (listappend.uses.map cUseOf), .sl 6 (listappend.seams.map cSeam), .sl 5 (listappend.ops.map cOperation)]), (1, .row 1 (unfit2a.map cI))], 2⟩) (e_1 (e_2 (e_3 (d11 (abf (dec_f c7)) (d11 (oadd Tryd.prog 3 (wi64 c8)) az))))) (by kernel_rfl) (by kernel_rfl) rfl (v7, (v8 + 1)) h.1 h.2 (Weak.anew [(0, some 0), (1, some 1)] (by rfl) (wt_cons rfl wk_sc (wt_cons rfl (wk_ptr rfl) (wt_cons rfl (wk_own rfl rfl) (wt_cons rfl wk_sc (wt_cons rfl wk_sc wt_nil))))) (wm_box rfl rfl (wl_cons wk_sc (wl_cons wk_sl (wl_cons wk_sl (wl_cons wk_sl (wl_cons wk_sl (wl_cons wk_sl (wl_cons wk_sl wl_nil))))))) (wm_row rfl rfl wm_nil)))
    · have h := h.2 c3
      rw [h]
      exact sr (ids := []) (vs := [boo false]) (mem := []) (e_1 (e_2 (d11 (abt (bne_t c3)) az))) (by kernel_rfl) (by kernel_rfl) (rts_sc rfl)
  · have h := h.2 c1
    have g_9 := (oleno Tryd.prog 40 1 0 unfit2a.length unfit2a.length rfl (by kernel_rfl))
    have e_10 := fun {o : Orc} {q : List Prop} (r : At o q) => (d11 (abf (dec_f c1)) (d11 g_9 r))
    by_cases c2 : v7 = ((unfit2a.length : Nat) : Int)
    · have h := h.1 c2
      obtain ⟨alive1, c3, h⟩ := h
      have g_11 := (abt (beq_t c2))
      rw [h]
      exact sr (ids := []) (vs := [boo alive1]) (mem := []) (e_1 (e_10 (d11 g_11 (d11 (ocs c3) (d11 g_11 az))))) (by kernel_rfl) (by kernel_rfl) (rts_sc rfl)
    · have h := h.2 c2
      have g_12 := (abf (beq_f c2))
      rw [h]
      exact sr (ids := []) (vs := [boo false]) (mem := []) (e_1 (e_10 (d11 g_12 (d11 g_12 az)))) (by kernel_rfl) (by kernel_rfl) (rts_sc rfl)
theorem garmentlaw22_SeamEase_W (listappend : Style) (a : Int) (r0 : Bool) (I0 : (List Int) → Int → Int → Prop) (M0 : (List Int) → Int → Int → Nat) (h : garmentlaw22_SeamEase_V listappend a r0 I0 M0) (h0 : ∀ (unfit2a : List Int) (v7 : Int) (v8 : Int), I0 unfit2a v7 v8 → garmentlaw22_SeamEase_V0 listappend a r0 I0 M0 unfit2a v7 v8) : Ret Tryd.prog XS 9 [.agg [str listappend.name, .sl 1 (listappend.sizes.map cS), .sl 1 (listappend.multiples.map cI), .sl 7 (listappend.pieces.map cPiece), .sl 3 (listappend.uses.map cUseOf), .sl 6 (listappend.seams.map cSeam), .sl 5 (listappend.ops.map cOperation)], int a] (boo r0) := by
  refine fn_rule Tryd.func9 (by kernel_rfl) (by kernel_rfl) (by kernel_rfl) (by kernel_rfl) ?_
  obtain ⟨light1, c1, h⟩ := h
  have e_13 := fun {o : Orc} {q : List Prop} (r : At o q) => (d11 (ocs c1) r)
  rcases Bool.eq_false_or_eq_true light1 with c2 | c2
  · have h := h.1 c2
    obtain ⟨unfit2a, unfit2b, c3, h⟩ := h
    have e_14 := fun {o : Orc} {q : List Prop} (r : At o q) => (d11 (abf (not_f c2)) (d11 (ocs c3) r))
    by_cases c4 : unfit2b = 0
    · have h := h.1 c4
      exact sl (ts := [1, 2, 5, 7, 8]) (ids := [0, 1]) (d := 0) (s0 := ⟨[(1, int a), (2, .ptr 0 0 0), (5, .own 1 0 ((unfit2a.map cI).length)), (7, int 0), (8, int 0)], [(0, .box [str listappend.name, .sl 1 (listappend.sizes.map cS), .sl 1 (listappend.multiples.map cI), .sl 7 (listappend.pieces.map cPiece), .sl 3 (listappend.uses.map cUseOf), .sl 6 (listappend.seams.map cSeam), .sl 5 (listappend.ops.map cOperation)]), (1, .row 1 (unfit2a.map cI))], 2⟩) (e_13 (e_14 (d11 (abf (bne_f c4)) az))) (by kernel_rfl) (by kernel_rfl) (Weak.anew [(0, some 0), (1, some 1)] (by rfl) (wt_cons rfl wk_sc (wt_cons rfl (wk_ptr rfl) (wt_cons rfl (wk_own rfl (List.length_map ..)) (wt_cons rfl wk_sc (wt_cons rfl wk_sc wt_nil))))) (wm_box rfl rfl (wl_cons wk_sc (wl_cons wk_sl (wl_cons wk_sl (wl_cons wk_sl (wl_cons wk_sl (wl_cons wk_sl (wl_cons wk_sl wl_nil))))))) (wm_row rfl rfl wm_nil))) (garmentlaw22_SeamEase_W0 listappend a r0 I0 M0 h0 unfit2a (0, 0) h)
    · have h := h.2 c4
      have e_15 := fun {o : Orc} {q : List Prop} (r : At o q) => (d11 (abt (bne_t c4)) (d11 (oleno Tryd.prog 40 1 0 ((unfit2a.map cI).length) unfit2a.length (List.length_map ..) (by kernel_rfl)) r))
      by_cases c5 : ((unfit2a.length : Nat) : Int) = 0
      · have h := h.1 c5
        obtain ⟨alive3, c6, h⟩ := h
        have g_16 := (abt (beq_t c5))
        rw [h]
        exact sr (ids := []) (vs := [boo alive3]) (mem := []) (e_13 (e_14 (e_15 (d11 g_16 (d11 (ocs c6) (d11 g_16 az)))))) (by kernel_rfl) (by kernel_rfl) (rts_sc rfl)
      · have h := h.2 c5
        have g_17 := (abf (beq_f c5))
        rw [h]
        exact sr (ids := []) (vs := [boo false]) (mem := []) (e_13 (e_14 (e_15 (d11 g_17 (d11 g_17 az))))) (by kernel_rfl) (by kernel_rfl) (rts_sc rfl)
  · have h := h.2 c2
    obtain ⟨alive2, c3, h⟩ := h
    rw [h]
    exact sr (ids := []) (vs := [boo alive2]) (mem := []) (e_13 (d11 (abt (not_t c2)) (d11 (ocs c3) az))) (by kernel_rfl) (by kernel_rfl) (rts_sc rfl)
end Go.Ab
end
