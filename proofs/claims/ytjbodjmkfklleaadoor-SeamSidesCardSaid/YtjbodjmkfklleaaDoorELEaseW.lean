/- A part of the proof. Conditions: those of each theorem. -/
import Derived.Test.YtjbodjmkfklleaaDoorETy
import Derived.Test.YtjbodjmkfklleaaDoorEWall
set_option linter.unusedVariables false
set_option linter.unusedSimpArgs false
set_option linter.unusedSectionVars false

section
namespace Go.Ab
open Go.Proofs
set_option maxRecDepth 1000000
set_option linter.unusedVariables false
attribute [local irreducible] todoQ
-- garmentlaw22.SeamSides
abbrev garmentlaw22_SeamSides_V (listappend : Style) (a : Int) (a2 : Int) (r0 : Bool) : Prop := (∃ (light1 : Bool), Ret Tryd.prog XS 15 [.agg [str listappend.name, .sl 1 (listappend.sizes.map cS), .sl 1 (listappend.multiples.map cI), .sl 7 (listappend.pieces.map cPiece), .sl 3 (listappend.uses.map cUseOf), .sl 6 (listappend.seams.map cSeam), .sl 5 (listappend.ops.map cOperation)]] (boo light1) ∧ ((light1 = true → (∃ (lengths2a : Int) (lengths2b : Int) (lengths2c : Int), Ret Tryd.prog XS 16 [.agg [str listappend.name, .sl 1 (listappend.sizes.map cS), .sl 1 (listappend.multiples.map cI), .sl 7 (listappend.pieces.map cPiece), .sl 3 (listappend.uses.map cUseOf), .sl 6 (listappend.seams.map cSeam), .sl 5 (listappend.ops.map cOperation)], int a, int a2] (.tup [int lengths2a, int lengths2b, int lengths2c]) ∧ ((lengths2c = 0 → ((a2 < 0 → r0 = false) ∧ (¬ (a2 < 0) → ((a2 ≥ ((listappend.seams.length : Nat) : Int) → r0 = false) ∧ (¬ (a2 ≥ ((listappend.seams.length : Nat) : Int)) → (Cap 48 (([] : List Seam) ++ listappend.seams).length) ∧ (Idx a2 listappend.seams.length) ∧ (Idx a2 (([] : List Seam) ++ listappend.seams).length) ∧ (∃ (lengths3a : Int) (lengths3b : Int) (lengths3c : Int), Ret Tryd.prog XS 16 [.agg [str listappend.name, .sl 1 (listappend.sizes.map cS), .sl 1 (listappend.multiples.map cI), .sl 7 (listappend.pieces.map cPiece), .sl 3 (listappend.uses.map cUseOf), .sl 6 (((([] : List Seam) ++ listappend.seams).set (a2 : Int).toNat (⟨(ai listappend.seams a2).pieceB, (ai listappend.seams a2).edgeB, (ai listappend.seams a2).pieceA, (ai listappend.seams a2).edgeA, (ai listappend.seams a2).reverse, (ai listappend.seams a2).ease⟩ : Seam)).map cSeam), .sl 5 (listappend.ops.map cOperation)], int a, int a2] (.tup [int lengths3a, int lengths3b, int lengths3c]) ∧ (∃ (unfit4a : List Int) (unfit4b : Int), Ret Tryd.prog XS 17 [.agg [str listappend.name, .sl 1 (listappend.sizes.map cS), .sl 1 (listappend.multiples.map cI), .sl 7 (listappend.pieces.map cPiece), .sl 3 (listappend.uses.map cUseOf), .sl 6 (listappend.seams.map cSeam), .sl 5 (listappend.ops.map cOperation)], int a] (.tup [.fr 1 (unfit4a.map cI), int unfit4b]) ∧ (∃ (unfit5a : List Int) (unfit5b : Int), Ret Tryd.prog XS 17 [.agg [str listappend.name, .sl 1 (listappend.sizes.map cS), .sl 1 (listappend.multiples.map cI), .sl 7 (listappend.pieces.map cPiece), .sl 3 (listappend.uses.map cUseOf), .sl 6 (((([] : List Seam) ++ listappend.seams).set (a2 : Int).toNat (⟨(ai listappend.seams a2).pieceB, (ai listappend.seams a2).edgeB, (ai listappend.seams a2).pieceA, (ai listappend.seams a2).edgeA, (ai listappend.seams a2).reverse, (ai listappend.seams a2).ease⟩ : Seam)).map cSeam), .sl 5 (listappend.ops.map cOperation)], int a] (.tup [.fr 1 (unfit5a.map cI), int unfit5b]) ∧ ((lengths3c = 0 → ((lengths2a = lengths3b → ((lengths2b = lengths3a → ((unfit4b = 0 → ((unfit5b = 0 → (∃ (sameInts6 : Bool), Ret Tryd.prog XS 18 [.sl 1 (unfit4a.map cI), .sl 1 (unfit5a.map cI)] (boo sameInts6) ∧ ((sameInts6 = true → (∃ (alive7 : Bool), Ret Tryd.prog XS 12 [] (boo alive7) ∧ r0 = alive7)) ∧ (sameInts6 = false → r0 = false)))) ∧ (¬ (unfit5b = 0) → r0 = false))) ∧ (¬ (unfit4b = 0) → (∃ (alive6 : Bool), Ret Tryd.prog XS 12 [] (boo alive6) ∧ r0 = alive6)))) ∧ (¬ (lengths2b = lengths3a) → r0 = false))) ∧ (¬ (lengths2a = lengths3b) → r0 = false))) ∧ (¬ (lengths3c = 0) → r0 = false)))))))))) ∧ (¬ (lengths2c = 0) → ((lengths2a = 0 → ((lengths2b = 0 → (∃ (alive3 : Bool), Ret Tryd.prog XS 12 [] (boo alive3) ∧ r0 = alive3)) ∧ (¬ (lengths2b = 0) → r0 = false))) ∧ (¬ (lengths2a = 0) → r0 = false)))))) ∧ (light1 = false → (∃ (alive2 : Bool), Ret Tryd.prog XS 12 [] (boo alive2) ∧ r0 = alive2))))
theorem garmentlaw22_SeamSides_W (listappend : Style) (a : Int) (a2 : Int) (r0 : Bool) (h : garmentlaw22_SeamSides_V listappend a a2 r0) : Ret Tryd.prog XS 6 [.agg [str listappend.name, .sl 1 (listappend.sizes.map cS), .sl 1 (listappend.multiples.map cI), .sl 7 (listappend.pieces.map cPiece), .sl 3 (listappend.uses.map cUseOf), .sl 6 (listappend.seams.map cSeam), .sl 5 (listappend.ops.map cOperation)], int a, int a2] (boo r0) := by
  refine fn_rule Tryd.func6 (by kernel_rfl) (by kernel_rfl) (by kernel_rfl) (by kernel_rfl) ?_
  obtain ⟨light1, c1, h⟩ := h
  have e_1 := fun {o : Orc} {q : List Prop} (r : At o q) => (d11 (ocs c1) r)
  rcases Bool.eq_false_or_eq_true light1 with c2 | c2
  · have h := h.1 c2
    obtain ⟨lengths2a, lengths2b, lengths2c, c3, h⟩ := h
    have e_2 := fun {o : Orc} {q : List Prop} (r : At o q) => (d11 (abf (not_f c2)) (d11 (ocs c3) r))
    by_cases c4 : lengths2c = 0
    · have h := h.1 c4
      have e_3 := fun {o : Orc} {q : List Prop} (r : At o q) => (d11 (abf (bne_f c4)) r)
      by_cases c5 : a2 < 0
      · have h := h.1 c5
        have g_4 := (abt (dec_t c5))
        rw [h]
        exact sr (ids := []) (vs := [boo false]) (mem := []) (e_1 (e_2 (e_3 (d11 g_4 (d11 g_4 (d11 g_4 (d11 g_4 (d11 g_4 (d11 g_4 (d11 abtt az)))))))))) (by kernel_rfl) (by kernel_rfl) (rts_sc rfl)
      · have h := h.2 c5
        have g_5 := (abf (dec_f c5))
        have e_6 := fun {o : Orc} {q : List Prop} (r : At o q) => (d11 g_5 (d11 g_5 (d11 g_5 (d11 g_5 (d11 (olen cSeam Tryd.prog 43 6 listappend.seams (by kernel_rfl)) (d11 g_5 (d11 g_5 r)))))))
        by_cases c6 : a2 ≥ ((listappend.seams.length : Nat) : Int)
        · have h := h.1 c6
          rw [h]
          exact sr (ids := []) (vs := [boo false]) (mem := []) (e_1 (e_2 (e_3 (e_6 (d11 (abt (dec_t c6)) az))))) (by kernel_rfl) (by kernel_rfl) (rts_sc rfl)
        · have h := h.2 c6
          obtain ⟨c7, c8, c9, lengths3a, lengths3b, lengths3c, c10, unfit4a, unfit4b, c11, unfit5a, unfit5b, c12, h⟩ := h
          have e_7 := fun {o : Orc} {q : List Prop} (r : At o q) => (d11 (abf (dec_f c6)) (d11 (oapp cSeam (n := ([] : List Seam).length) rfl c7) (d11 (oidx cSeam c8) (d01 (oown cSeam (n := (([] : List Seam) ++ listappend.seams).length) rfl c9) (d21 (oset cSeam (⟨(ai listappend.seams a2).pieceB, (ai listappend.seams a2).edgeB, (ai listappend.seams a2).pieceA, (ai listappend.seams a2).edgeA, (ai listappend.seams a2).reverse, (ai listappend.seams a2).ease⟩ : Seam) c9) (d12 (ocl [3] [(3, .row 6 (((([] : List Seam) ++ listappend.seams).set (a2 : Int).toNat (⟨(ai listappend.seams a2).pieceB, (ai listappend.seams a2).edgeB, (ai listappend.seams a2).pieceA, (ai listappend.seams a2).edgeA, (ai listappend.seams a2).reverse, (ai listappend.seams a2).ease⟩ : Seam)).map cSeam))] [.agg [str listappend.name, .sl 1 (listappend.sizes.map cS), .sl 1 (listappend.multiples.map cI), .sl 7 (listappend.pieces.map cPiece), .sl 3 (listappend.uses.map cUseOf), .own 3 0 ((([] : List Seam) ++ listappend.seams).length), .sl 5 (listappend.ops.map cOperation)], int a, int a2] (as_cons (at_agg (as_cons (ArgTo.same rfl) (as_cons (ArgTo.same rfl) (as_cons (ArgTo.same rfl) (as_cons (ArgTo.same rfl) (as_cons (ArgTo.same rfl) (as_cons (at_row (by simp) rfl) (as_cons (ArgTo.same rfl) as_nil)))))))) (as_cons (ArgTo.same rfl) (as_cons (ArgTo.same rfl) as_nil))) c10) (d11 (ocs c11) (d12 (ocl [3] [(3, .row 6 (((([] : List Seam) ++ listappend.seams).set (a2 : Int).toNat (⟨(ai listappend.seams a2).pieceB, (ai listappend.seams a2).edgeB, (ai listappend.seams a2).pieceA, (ai listappend.seams a2).edgeA, (ai listappend.seams a2).reverse, (ai listappend.seams a2).ease⟩ : Seam)).map cSeam))] [.agg [str listappend.name, .sl 1 (listappend.sizes.map cS), .sl 1 (listappend.multiples.map cI), .sl 7 (listappend.pieces.map cPiece), .sl 3 (listappend.uses.map cUseOf), .own 3 0 ((([] : List Seam) ++ listappend.seams).length), .sl 5 (listappend.ops.map cOperation)], int a] (as_cons (at_agg (as_cons (ArgTo.same rfl) (as_cons (ArgTo.same rfl) (as_cons (ArgTo.same rfl) (as_cons (ArgTo.same rfl) (as_cons (ArgTo.same rfl) (as_cons (at_row (by simp) rfl) (as_cons (ArgTo.same rfl) as_nil)))))))) (as_cons (ArgTo.same rfl) as_nil)) c12) r))))))))
          by_cases c13 : lengths3c = 0
          · have h := h.1 c13
            have g_8 := (abt (beq_t c13))
            have e_9 := fun {o : Orc} {q : List Prop} (r : At o q) => (d11 g_8 (d11 g_8 (d11 g_8 (d11 g_8 r))))
            by_cases c14 : lengths2a = lengths3b
            · have h := h.1 c14
              have g_10 := (abt (beq_t c14))
              have e_11 := fun {o : Orc} {q : List Prop} (r : At o q) => (d11 g_10 (d11 g_10 (d11 g_10 (d11 g_10 r))))
              by_cases c15 : lengths2b = lengths3a
              · have h := h.1 c15
                have g_12 := (abt (beq_t c15))
                have e_13 := fun {o : Orc} {q : List Prop} (r : At o q) => (d11 g_12 (d11 g_12 (d11 g_12 r)))
                by_cases c16 : unfit4b = 0
                · have h := h.1 c16
                  have g_14 := (abf (bne_f c16))
                  have e_15 := fun {o : Orc} {q : List Prop} (r : At o q) => (d11 g_14 (d11 g_14 (d11 g_14 r)))
                  by_cases c17 : unfit5b = 0
                  · have h := h.1 c17
                    obtain ⟨sameInts6, c18, h⟩ := h
                    have g_16 := (abt (beq_t c17))
                    have e_17 := fun {o : Orc} {q : List Prop} (r : At o q) => (d11 g_16 (d11 g_16 (d11 g_16 (d12 (ocl [5, 6] [(5, .row 1 (unfit4a.map cI)), (6, .row 1 (unfit5a.map cI))] [.own 5 0 ((unfit4a.map cI).length), .own 6 0 ((unfit5a.map cI).length)] (as_cons (at_row (List.length_map ..) rfl) (as_cons (at_row (List.length_map ..) rfl) as_nil)) c18) (d11 g_14 (d11 g_16 (d11 g_12 (d11 g_14 (d11 g_12 r)))))))))
                    rcases Bool.eq_false_or_eq_true sameInts6 with c19 | c19
                    · have h := h.1 c19
                      obtain ⟨alive7, c20, h⟩ := h
                      rw [h]
                      exact sr (ids := []) (vs := [boo alive7]) (mem := []) (e_1 (e_2 (e_3 (e_6 (e_7 (e_9 (e_11 (e_13 (e_15 (e_17 (d11 (abt c19) (d11 (ocs c20) (d11 (abt c19) az))))))))))))) (by kernel_rfl) (by kernel_rfl) (rts_sc rfl)
                    · have h := h.2 c19
                      rw [h]
                      exact sr (ids := []) (vs := [boo false]) (mem := []) (e_1 (e_2 (e_3 (e_6 (e_7 (e_9 (e_11 (e_13 (e_15 (e_17 (d11 (abf c19) (d11 (abf c19) az)))))))))))) (by kernel_rfl) (by kernel_rfl) (rts_sc rfl)
                  · have h := h.2 c17
                    have g_18 := (abf (beq_f c17))
                    rw [h]
                    exact sr (ids := []) (vs := [boo false]) (mem := []) (e_1 (e_2 (e_3 (e_6 (e_7 (e_9 (e_11 (e_13 (e_15 (d11 g_18 (d11 g_18 (d11 g_18 (d11 g_14 (d11 g_18 (d11 g_12 (d11 g_14 (d11 g_12 (d11 abff (d11 abff az))))))))))))))))))) (by kernel_rfl) (by kernel_rfl) (rts_sc rfl)
                · have h := h.2 c16
                  obtain ⟨alive6, c17, h⟩ := h
                  have g_19 := (abt (bne_t c16))
                  rw [h]
                  exact sr (ids := []) (vs := [boo alive6]) (mem := []) (e_1 (e_2 (e_3 (e_6 (e_7 (e_9 (e_11 (e_13 (d11 g_19 (d11 g_19 (d11 g_19 (d11 g_19 (d11 g_12 (d11 g_19 (d11 g_12 (d11 abtt (d11 (ocs c17) (d11 abtt az)))))))))))))))))) (by kernel_rfl) (by kernel_rfl) (rts_sc rfl)
              · have h := h.2 c15
                have g_20 := (abf (beq_f c15))
                rw [h]
                exact sr (ids := []) (vs := [boo false]) (mem := []) (e_1 (e_2 (e_3 (e_6 (e_7 (e_9 (e_11 (d11 g_20 (d11 g_20 (d11 g_20 (d11 g_20 (d11 g_20 (d11 abff (d11 abff az)))))))))))))) (by kernel_rfl) (by kernel_rfl) (rts_sc rfl)
            · have h := h.2 c14
              have g_21 := (abf (beq_f c14))
              rw [h]
              exact sr (ids := []) (vs := [boo false]) (mem := []) (e_1 (e_2 (e_3 (e_6 (e_7 (e_9 (d11 g_21 (d11 g_21 (d11 g_21 (d11 g_21 (d11 abff (d11 abff (d11 abff (d11 abff (d11 abff (d11 abff (d11 abff az))))))))))))))))) (by kernel_rfl) (by kernel_rfl) (rts_sc rfl)
          · have h := h.2 c13
            have g_22 := (abf (beq_f c13))
            rw [h]
            exact sr (ids := []) (vs := [boo false]) (mem := []) (e_1 (e_2 (e_3 (e_6 (e_7 (d11 g_22 (d11 g_22 (d11 g_22 (d11 g_22 (d11 abff (d11 abff (d11 abff (d11 abff (d11 abff (d11 abff (d11 abff (d11 abff (d11 abff (d11 abff (d11 abff az)))))))))))))))))))) (by kernel_rfl) (by kernel_rfl) (rts_sc rfl)
    · have h := h.2 c4
      have e_23 := fun {o : Orc} {q : List Prop} (r : At o q) => (d11 (abt (bne_t c4)) r)
      by_cases c5 : lengths2a = 0
      · have h := h.1 c5
        have g_24 := (abt (beq_t c5))
        have e_25 := fun {o : Orc} {q : List Prop} (r : At o q) => (d11 g_24 (d11 g_24 (d11 g_24 r)))
        by_cases c6 : lengths2b = 0
        · have h := h.1 c6
          obtain ⟨alive3, c7, h⟩ := h
          have g_26 := (abt (beq_t c6))
          rw [h]
          exact sr (ids := []) (vs := [boo alive3]) (mem := []) (e_1 (e_2 (e_23 (e_25 (d11 g_26 (d11 (ocs c7) (d11 g_26 az))))))) (by kernel_rfl) (by kernel_rfl) (rts_sc rfl)
        · have h := h.2 c6
          have g_27 := (abf (beq_f c6))
          rw [h]
          exact sr (ids := []) (vs := [boo false]) (mem := []) (e_1 (e_2 (e_23 (e_25 (d11 g_27 (d11 g_27 az)))))) (by kernel_rfl) (by kernel_rfl) (rts_sc rfl)
      · have h := h.2 c5
        have g_28 := (abf (beq_f c5))
        rw [h]
        exact sr (ids := []) (vs := [boo false]) (mem := []) (e_1 (e_2 (e_23 (d11 g_28 (d11 g_28 (d11 g_28 (d11 abff (d11 abff az)))))))) (by kernel_rfl) (by kernel_rfl) (rts_sc rfl)
  · have h := h.2 c2
    obtain ⟨alive2, c3, h⟩ := h
    rw [h]
    exact sr (ids := []) (vs := [boo alive2]) (mem := []) (e_1 (d11 (abt (not_t c2)) (d11 (ocs c3) az))) (by kernel_rfl) (by kernel_rfl) (rts_sc rfl)
end Go.Ab
end
