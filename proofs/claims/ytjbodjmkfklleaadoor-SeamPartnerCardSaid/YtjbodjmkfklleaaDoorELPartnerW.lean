/- A part of the proof. Conditions: those of each theorem. -/
import Derived.Test.YtjbodjmkfklleaaDoorETy
import Derived.Test.YtjbodjmkfklleaaDoorEWall
set_option linter.unusedVariables false
set_option linter.unusedSimpArgs false
set_option linter.unusedSectionVars false

namespace Go.Ab
open Go.Proofs
set_option maxRecDepth 1000000
set_option linter.unusedVariables false
attribute [local irreducible] todoQ
-- garmentlaw22.SeamPartner
abbrev garmentlaw22_SeamPartner_V (listappend : Int) (a : Int) (a2 : Int) (r0 : Bool) : Prop := (InR (listappend.tmod 1073741824)) ∧ (InR (1 + (listappend.tmod 1073741824))) ∧ (InR (a.tmod 1073741824)) ∧ (InR a2) ∧ (InR ((1 + (listappend.tmod 1073741824)) + 1)) ∧ (((1 + (listappend.tmod 1073741824)) + 1) ≠ 0) ∧ (∃ (partner1a : Int) (partner1b : Int), Ret Tryd.prog XS 10 [int (1 + (listappend.tmod 1073741824)), int (a.tmod 1073741824), boo false, int (a2.tmod ((1 + (listappend.tmod 1073741824)) + 1))] (.tup [int partner1a, int partner1b]) ∧ (∃ (partner2a : Int) (partner2b : Int), Ret Tryd.prog XS 10 [int (1 + (listappend.tmod 1073741824)), int (a.tmod 1073741824), boo true, int (a2.tmod ((1 + (listappend.tmod 1073741824)) + 1))] (.tup [int partner2a, int partner2b]) ∧ (∃ (partner3a : Int) (partner3b : Int), Ret Tryd.prog XS 10 [int (1 + (listappend.tmod 1073741824)), int (a.tmod 1073741824), boo false, int 0] (.tup [int partner3a, int partner3b]) ∧ (∃ (partner4a : Int) (partner4b : Int), Ret Tryd.prog XS 10 [int (1 + (listappend.tmod 1073741824)), int (a.tmod 1073741824), boo false, int (1 + (listappend.tmod 1073741824))] (.tup [int partner4a, int partner4b]) ∧ ((partner1b = 0 → ((partner2b = 0 → ((partner3b = 0 → ((partner4b = 0 → ((partner3a = 0 → ((partner4a = (a.tmod 1073741824) → (InR ((a.tmod 1073741824) - partner1a)) ∧ ((partner2a = ((a.tmod 1073741824) - partner1a) → ((partner1a < 0 → r0 = false) ∧ (¬ (partner1a < 0) → ((partner1a > (a.tmod 1073741824) → r0 = false) ∧ (¬ (partner1a > (a.tmod 1073741824)) → (((a2.tmod ((1 + (listappend.tmod 1073741824)) + 1)) < (1 + (listappend.tmod 1073741824)) → (InR ((a2.tmod ((1 + (listappend.tmod 1073741824)) + 1)) + 1)) ∧ (∃ (partner5a : Int) (partner5b : Int), Ret Tryd.prog XS 10 [int (1 + (listappend.tmod 1073741824)), int (a.tmod 1073741824), boo false, int ((a2.tmod ((1 + (listappend.tmod 1073741824)) + 1)) + 1)] (.tup [int partner5a, int partner5b]) ∧ ((partner5b = 0 → ((partner5a < partner1a → r0 = false) ∧ (¬ (partner5a < partner1a) → (InR (partner1a * (1 + (listappend.tmod 1073741824)))) ∧ (InR ((a2.tmod ((1 + (listappend.tmod 1073741824)) + 1)) * (a.tmod 1073741824))) ∧ (InR ((partner1a * (1 + (listappend.tmod 1073741824))) - ((a2.tmod ((1 + (listappend.tmod 1073741824)) + 1)) * (a.tmod 1073741824)))) ∧ (InR (2 * ((partner1a * (1 + (listappend.tmod 1073741824))) - ((a2.tmod ((1 + (listappend.tmod 1073741824)) + 1)) * (a.tmod 1073741824))))) ∧ (((2 * ((partner1a * (1 + (listappend.tmod 1073741824))) - ((a2.tmod ((1 + (listappend.tmod 1073741824)) + 1)) * (a.tmod 1073741824)))) ≤ (1 + (listappend.tmod 1073741824)) → (InR (((a2.tmod ((1 + (listappend.tmod 1073741824)) + 1)) * (a.tmod 1073741824)) - (partner1a * (1 + (listappend.tmod 1073741824))))) ∧ (InR (2 * (((a2.tmod ((1 + (listappend.tmod 1073741824)) + 1)) * (a.tmod 1073741824)) - (partner1a * (1 + (listappend.tmod 1073741824)))))) ∧ (((2 * (((a2.tmod ((1 + (listappend.tmod 1073741824)) + 1)) * (a.tmod 1073741824)) - (partner1a * (1 + (listappend.tmod 1073741824))))) ≤ (1 + (listappend.tmod 1073741824)) → (∃ (alive6 : Bool), Ret Tryd.prog XS 12 [] (boo alive6) ∧ r0 = alive6)) ∧ (¬ ((2 * (((a2.tmod ((1 + (listappend.tmod 1073741824)) + 1)) * (a.tmod 1073741824)) - (partner1a * (1 + (listappend.tmod 1073741824))))) ≤ (1 + (listappend.tmod 1073741824))) → r0 = false))) ∧ (¬ ((2 * ((partner1a * (1 + (listappend.tmod 1073741824))) - ((a2.tmod ((1 + (listappend.tmod 1073741824)) + 1)) * (a.tmod 1073741824)))) ≤ (1 + (listappend.tmod 1073741824))) → r0 = false))))) ∧ (¬ (partner5b = 0) → r0 = false)))) ∧ (¬ ((a2.tmod ((1 + (listappend.tmod 1073741824)) + 1)) < (1 + (listappend.tmod 1073741824))) → (InR (partner1a * (1 + (listappend.tmod 1073741824)))) ∧ (InR ((a2.tmod ((1 + (listappend.tmod 1073741824)) + 1)) * (a.tmod 1073741824))) ∧ (InR ((partner1a * (1 + (listappend.tmod 1073741824))) - ((a2.tmod ((1 + (listappend.tmod 1073741824)) + 1)) * (a.tmod 1073741824)))) ∧ (InR (2 * ((partner1a * (1 + (listappend.tmod 1073741824))) - ((a2.tmod ((1 + (listappend.tmod 1073741824)) + 1)) * (a.tmod 1073741824))))) ∧ (((2 * ((partner1a * (1 + (listappend.tmod 1073741824))) - ((a2.tmod ((1 + (listappend.tmod 1073741824)) + 1)) * (a.tmod 1073741824)))) ≤ (1 + (listappend.tmod 1073741824)) → (InR (((a2.tmod ((1 + (listappend.tmod 1073741824)) + 1)) * (a.tmod 1073741824)) - (partner1a * (1 + (listappend.tmod 1073741824))))) ∧ (InR (2 * (((a2.tmod ((1 + (listappend.tmod 1073741824)) + 1)) * (a.tmod 1073741824)) - (partner1a * (1 + (listappend.tmod 1073741824)))))) ∧ (((2 * (((a2.tmod ((1 + (listappend.tmod 1073741824)) + 1)) * (a.tmod 1073741824)) - (partner1a * (1 + (listappend.tmod 1073741824))))) ≤ (1 + (listappend.tmod 1073741824)) → (∃ (alive5 : Bool), Ret Tryd.prog XS 12 [] (boo alive5) ∧ r0 = alive5)) ∧ (¬ ((2 * (((a2.tmod ((1 + (listappend.tmod 1073741824)) + 1)) * (a.tmod 1073741824)) - (partner1a * (1 + (listappend.tmod 1073741824))))) ≤ (1 + (listappend.tmod 1073741824))) → r0 = false))) ∧ (¬ ((2 * ((partner1a * (1 + (listappend.tmod 1073741824))) - ((a2.tmod ((1 + (listappend.tmod 1073741824)) + 1)) * (a.tmod 1073741824)))) ≤ (1 + (listappend.tmod 1073741824))) → r0 = false))))))))) ∧ (¬ (partner2a = ((a.tmod 1073741824) - partner1a)) → r0 = false))) ∧ (¬ (partner4a = (a.tmod 1073741824)) → r0 = false))) ∧ (¬ (partner3a = 0) → r0 = false))) ∧ (¬ (partner4b = 0) → r0 = false))) ∧ (¬ (partner3b = 0) → r0 = false))) ∧ (¬ (partner2b = 0) → r0 = false))) ∧ (¬ (partner1b = 0) → r0 = false))))))
theorem garmentlaw22_SeamPartner_W (listappend : Int) (a : Int) (a2 : Int) (r0 : Bool) (h : garmentlaw22_SeamPartner_V listappend a a2 r0) : Ret Tryd.prog XS 5 [.sc (.int .u32 listappend), .sc (.int .u32 a), .sc (.int .u32 a2)] (boo r0) := by
  refine fn_rule Tryd.func5 (by kernel_rfl) (by kernel_rfl) (by kernel_rfl) (by kernel_rfl) ?_
  obtain ⟨c1, c2, c3, c4, c5, c6, partner1a, partner1b, c7, partner2a, partner2b, c8, partner3a, partner3b, c9, partner4a, partner4b, c10, h⟩ := h
  have e_1 := fun {o : Orc} {q : List Prop} (r : At o q) => (d11 (orem Tryd.prog 37 .u32 listappend 1073741824 (by decide)) (d11 (oconv Tryd.prog 37 3 .u32 .i64 (by kernel_rfl) (by kernel_rfl) (wi64 c1)) (d11 (oadd Tryd.prog 3 (wi64 c2)) (d11 (orem Tryd.prog 37 .u32 a 1073741824 (by decide)) (d11 (oconv Tryd.prog 37 3 .u32 .i64 (by kernel_rfl) (by kernel_rfl) (wi64 c3)) (d11 (oconv Tryd.prog 37 3 .u32 .i64 (by kernel_rfl) (by kernel_rfl) (wi64 c4)) (d11 (oadd Tryd.prog 3 (wi64 c5)) (d11 (orem Tryd.prog 3 .i64 a2 ((1 + (listappend.tmod 1073741824)) + 1) c6) (d11 (ocs c7) (d11 (ocs c8) (d11 (ocs c9) (d11 (ocs c10) r))))))))))))
  by_cases c11 : partner1b = 0
  · have h := h.1 c11
    have g_2 := (abf (bne_f c11))
    have e_3 := fun {o : Orc} {q : List Prop} (r : At o q) => (d11 g_2 (d11 g_2 (d11 g_2 r)))
    by_cases c12 : partner2b = 0
    · have h := h.1 c12
      have g_4 := (abf (bne_f c12))
      have e_5 := fun {o : Orc} {q : List Prop} (r : At o q) => (d11 g_4 (d11 g_4 (d11 g_4 r)))
      by_cases c13 : partner3b = 0
      · have h := h.1 c13
        have g_6 := (abf (bne_f c13))
        have e_7 := fun {o : Orc} {q : List Prop} (r : At o q) => (d11 g_6 (d11 g_6 (d11 g_6 r)))
        by_cases c14 : partner4b = 0
        · have h := h.1 c14
          have g_8 := (abf (bne_f c14))
          have e_9 := fun {o : Orc} {q : List Prop} (r : At o q) => (d11 g_8 (d11 g_8 (d11 g_8 r)))
          by_cases c15 : partner3a = 0
          · have h := h.1 c15
            have g_10 := (abf (bne_f c15))
            have e_11 := fun {o : Orc} {q : List Prop} (r : At o q) => (d11 g_10 (d11 g_10 (d11 g_10 (d11 g_10 r))))
            by_cases c16 : partner4a = (a.tmod 1073741824)
            · have h := h.1 c16
              obtain ⟨c17, h⟩ := h
              have g_12 := (abf (bne_f c16))
              have e_13 := fun {o : Orc} {q : List Prop} (r : At o q) => (d11 g_12 (d11 g_12 (d11 g_12 (d11 g_12 (d11 (osub Tryd.prog 3 (wi64 c17)) (d11 g_12 (d11 g_12 r)))))))
              by_cases c18 : partner2a = ((a.tmod 1073741824) - partner1a)
              · have h := h.1 c18
                have g_14 := (abf (bne_f c18))
                have e_15 := fun {o : Orc} {q : List Prop} (r : At o q) => (d11 g_14 (d11 g_14 (d11 g_14 r)))
                by_cases c19 : partner1a < 0
                · have h := h.1 c19
                  have g_16 := (abt (dec_t c19))
                  rw [h]
                  exact sr (ids := []) (vs := [boo false]) (mem := []) (e_1 (e_3 (e_5 (e_7 (e_9 (e_11 (e_13 (e_15 (d11 g_16 (d11 g_16 (d11 g_16 (d11 g_16 (d11 abtt az))))))))))))) (by kernel_rfl) (by kernel_rfl) (rts_sc rfl)
                · have h := h.2 c19
                  have g_17 := (abf (dec_f c19))
                  have e_18 := fun {o : Orc} {q : List Prop} (r : At o q) => (d11 g_17 (d11 g_17 (d11 g_17 (d11 g_17 r))))
                  by_cases c20 : partner1a > (a.tmod 1073741824)
                  · have h := h.1 c20
                    rw [h]
                    exact sr (ids := []) (vs := [boo false]) (mem := []) (e_1 (e_3 (e_5 (e_7 (e_9 (e_11 (e_13 (e_15 (e_18 (d11 (abt (dec_t c20)) az)))))))))) (by kernel_rfl) (by kernel_rfl) (rts_sc rfl)
                  · have h := h.2 c20
                    have e_19 := fun {o : Orc} {q : List Prop} (r : At o q) => (d11 (abf (dec_f c20)) r)
                    by_cases c21 : (a2.tmod ((1 + (listappend.tmod 1073741824)) + 1)) < (1 + (listappend.tmod 1073741824))
                    · have h := h.1 c21
                      obtain ⟨c22, partner5a, partner5b, c23, h⟩ := h
                      have e_20 := fun {o : Orc} {q : List Prop} (r : At o q) => (d11 (abt (dec_t c21)) (d11 (oadd Tryd.prog 3 (wi64 c22)) (d11 (ocs c23) r)))
                      by_cases c24 : partner5b = 0
                      · have h := h.1 c24
                        have g_21 := (abf (bne_f c24))
                        have e_22 := fun {o : Orc} {q : List Prop} (r : At o q) => (d11 g_21 (d11 g_21 (d11 g_21 (d11 g_21 r))))
                        by_cases c25 : partner5a < partner1a
                        · have h := h.1 c25
                          rw [h]
                          exact sr (ids := []) (vs := [boo false]) (mem := []) (e_1 (e_3 (e_5 (e_7 (e_9 (e_11 (e_13 (e_15 (e_18 (e_19 (e_20 (e_22 (d11 (abt (dec_t c25)) az))))))))))))) (by kernel_rfl) (by kernel_rfl) (rts_sc rfl)
                        · have h := h.2 c25
                          obtain ⟨c26, c27, c28, c29, h⟩ := h
                          have g_23 := (omul Tryd.prog 3 (wi64 c26))
                          have g_24 := (omul Tryd.prog 3 (wi64 c27))
                          have e_25 := fun {o : Orc} {q : List Prop} (r : At o q) => (d11 (abf (dec_f c25)) (d11 g_23 (d11 g_24 (d11 (osub Tryd.prog 3 (wi64 c28)) (d11 (omul Tryd.prog 3 (wi64 c29)) r)))))
                          by_cases c30 : (2 * ((partner1a * (1 + (listappend.tmod 1073741824))) - ((a2.tmod ((1 + (listappend.tmod 1073741824)) + 1)) * (a.tmod 1073741824)))) ≤ (1 + (listappend.tmod 1073741824))
                          · have h := h.1 c30
                            obtain ⟨c31, c32, h⟩ := h
                            have g_26 := (abt (dec_t c30))
                            have e_27 := fun {o : Orc} {q : List Prop} (r : At o q) => (d11 g_26 (d11 g_26 (d11 g_26 (d11 g_24 (d11 g_26 (d11 g_26 (d11 g_26 (d11 g_23 (d11 g_26 (d11 (osub Tryd.prog 3 (wi64 c31)) (d11 g_26 (d11 (omul Tryd.prog 3 (wi64 c32)) (d11 g_26 (d11 g_26 (d11 g_26 r)))))))))))))))
                            by_cases c33 : (2 * (((a2.tmod ((1 + (listappend.tmod 1073741824)) + 1)) * (a.tmod 1073741824)) - (partner1a * (1 + (listappend.tmod 1073741824))))) ≤ (1 + (listappend.tmod 1073741824))
                            · have h := h.1 c33
                              obtain ⟨alive6, c34, h⟩ := h
                              have g_28 := (abt (dec_t c33))
                              rw [h]
                              exact sr (ids := []) (vs := [boo alive6]) (mem := []) (e_1 (e_3 (e_5 (e_7 (e_9 (e_11 (e_13 (e_15 (e_18 (e_19 (e_20 (e_22 (e_25 (e_27 (d11 g_28 (d11 (ocs c34) (d11 g_28 az))))))))))))))))) (by kernel_rfl) (by kernel_rfl) (rts_sc rfl)
                            · have h := h.2 c33
                              have g_29 := (abf (dec_f c33))
                              rw [h]
                              exact sr (ids := []) (vs := [boo false]) (mem := []) (e_1 (e_3 (e_5 (e_7 (e_9 (e_11 (e_13 (e_15 (e_18 (e_19 (e_20 (e_22 (e_25 (e_27 (d11 g_29 (d11 g_29 az)))))))))))))))) (by kernel_rfl) (by kernel_rfl) (rts_sc rfl)
                          · have h := h.2 c30
                            have g_30 := (abf (dec_f c30))
                            rw [h]
                            exact sr (ids := []) (vs := [boo false]) (mem := []) (e_1 (e_3 (e_5 (e_7 (e_9 (e_11 (e_13 (e_15 (e_18 (e_19 (e_20 (e_22 (e_25 (d11 g_30 (d11 g_30 (d11 g_30 (d11 g_30 (d11 g_30 (d11 g_30 (d11 g_30 (d11 g_30 (d11 g_30 (d11 g_30 (d11 g_30 (d11 abff (d11 abff az)))))))))))))))))))))))))) (by kernel_rfl) (by kernel_rfl) (rts_sc rfl)
                      · have h := h.2 c24
                        have g_31 := (abt (bne_t c24))
                        rw [h]
                        exact sr (ids := []) (vs := [boo false]) (mem := []) (e_1 (e_3 (e_5 (e_7 (e_9 (e_11 (e_13 (e_15 (e_18 (e_19 (e_20 (d11 g_31 (d11 g_31 (d11 g_31 (d11 g_31 (d11 abtt az)))))))))))))))) (by kernel_rfl) (by kernel_rfl) (rts_sc rfl)
                    · have h := h.2 c21
                      obtain ⟨c22, c23, c24, c25, h⟩ := h
                      have g_32 := (omul Tryd.prog 3 (wi64 c22))
                      have g_33 := (omul Tryd.prog 3 (wi64 c23))
                      have e_34 := fun {o : Orc} {q : List Prop} (r : At o q) => (d11 (abf (dec_f c21)) (d11 g_32 (d11 g_33 (d11 (osub Tryd.prog 3 (wi64 c24)) (d11 (omul Tryd.prog 3 (wi64 c25)) r)))))
                      by_cases c26 : (2 * ((partner1a * (1 + (listappend.tmod 1073741824))) - ((a2.tmod ((1 + (listappend.tmod 1073741824)) + 1)) * (a.tmod 1073741824)))) ≤ (1 + (listappend.tmod 1073741824))
                      · have h := h.1 c26
                        obtain ⟨c27, c28, h⟩ := h
                        have g_35 := (abt (dec_t c26))
                        have e_36 := fun {o : Orc} {q : List Prop} (r : At o q) => (d11 g_35 (d11 g_35 (d11 g_35 (d11 g_33 (d11 g_35 (d11 g_35 (d11 g_35 (d11 g_32 (d11 g_35 (d11 (osub Tryd.prog 3 (wi64 c27)) (d11 g_35 (d11 (omul Tryd.prog 3 (wi64 c28)) (d11 g_35 (d11 g_35 (d11 g_35 r)))))))))))))))
                        by_cases c29 : (2 * (((a2.tmod ((1 + (listappend.tmod 1073741824)) + 1)) * (a.tmod 1073741824)) - (partner1a * (1 + (listappend.tmod 1073741824))))) ≤ (1 + (listappend.tmod 1073741824))
                        · have h := h.1 c29
                          obtain ⟨alive5, c30, h⟩ := h
                          have g_37 := (abt (dec_t c29))
                          rw [h]
                          exact sr (ids := []) (vs := [boo alive5]) (mem := []) (e_1 (e_3 (e_5 (e_7 (e_9 (e_11 (e_13 (e_15 (e_18 (e_19 (e_34 (e_36 (d11 g_37 (d11 (ocs c30) (d11 g_37 az))))))))))))))) (by kernel_rfl) (by kernel_rfl) (rts_sc rfl)
                        · have h := h.2 c29
                          have g_38 := (abf (dec_f c29))
                          rw [h]
                          exact sr (ids := []) (vs := [boo false]) (mem := []) (e_1 (e_3 (e_5 (e_7 (e_9 (e_11 (e_13 (e_15 (e_18 (e_19 (e_34 (e_36 (d11 g_38 (d11 g_38 az)))))))))))))) (by kernel_rfl) (by kernel_rfl) (rts_sc rfl)
                      · have h := h.2 c26
                        have g_39 := (abf (dec_f c26))
                        rw [h]
                        exact sr (ids := []) (vs := [boo false]) (mem := []) (e_1 (e_3 (e_5 (e_7 (e_9 (e_11 (e_13 (e_15 (e_18 (e_19 (e_34 (d11 g_39 (d11 g_39 (d11 g_39 (d11 g_39 (d11 g_39 (d11 g_39 (d11 g_39 (d11 g_39 (d11 g_39 (d11 g_39 (d11 g_39 (d11 abff (d11 abff az)))))))))))))))))))))))) (by kernel_rfl) (by kernel_rfl) (rts_sc rfl)
              · have h := h.2 c18
                have g_40 := (abt (bne_t c18))
                rw [h]
                exact sr (ids := []) (vs := [boo false]) (mem := []) (e_1 (e_3 (e_5 (e_7 (e_9 (e_11 (e_13 (d11 g_40 (d11 g_40 (d11 g_40 (d11 abtt (d11 abtt (d11 abtt (d11 abtt (d11 abtt az))))))))))))))) (by kernel_rfl) (by kernel_rfl) (rts_sc rfl)
            · have h := h.2 c16
              have g_41 := (abt (bne_t c16))
              rw [h]
              exact sr (ids := []) (vs := [boo false]) (mem := []) (e_1 (e_3 (e_5 (e_7 (e_9 (e_11 (d11 g_41 (d11 g_41 (d11 g_41 (d11 g_41 (d11 g_41 (d11 g_41 (d11 abtt (d11 abtt (d11 abtt (d11 abtt (d11 abtt (d11 abtt (d11 abtt (d11 abtt az)))))))))))))))))))) (by kernel_rfl) (by kernel_rfl) (rts_sc rfl)
          · have h := h.2 c15
            have g_42 := (abt (bne_t c15))
            rw [h]
            exact sr (ids := []) (vs := [boo false]) (mem := []) (e_1 (e_3 (e_5 (e_7 (e_9 (d11 g_42 (d11 g_42 (d11 g_42 (d11 g_42 (d11 abtt (d11 abtt (d11 abtt (d11 abtt (d11 abtt (d11 abtt (d11 abtt (d11 abtt (d11 abtt (d11 abtt (d11 abtt (d11 abtt (d11 abtt (d11 abtt az))))))))))))))))))))))) (by kernel_rfl) (by kernel_rfl) (rts_sc rfl)
        · have h := h.2 c14
          have g_43 := (abt (bne_t c14))
          rw [h]
          exact sr (ids := []) (vs := [boo false]) (mem := []) (e_1 (e_3 (e_5 (e_7 (d11 g_43 (d11 g_43 (d11 g_43 (d11 abtt (d11 abtt (d11 abtt (d11 abtt (d11 abtt (d11 abtt (d11 abtt (d11 abtt (d11 abtt (d11 abtt (d11 abtt (d11 abtt (d11 abtt (d11 abtt (d11 abtt (d11 abtt (d11 abtt (d11 abtt az))))))))))))))))))))))))) (by kernel_rfl) (by kernel_rfl) (rts_sc rfl)
      · have h := h.2 c13
        have g_44 := (abt (bne_t c13))
        rw [h]
        exact sr (ids := []) (vs := [boo false]) (mem := []) (e_1 (e_3 (e_5 (d11 g_44 (d11 g_44 (d11 g_44 (d11 abtt (d11 abtt (d11 abtt (d11 abtt (d11 abtt (d11 abtt (d11 abtt (d11 abtt (d11 abtt (d11 abtt (d11 abtt (d11 abtt (d11 abtt (d11 abtt (d11 abtt (d11 abtt (d11 abtt (d11 abtt (d11 abtt (d11 abtt (d11 abtt az))))))))))))))))))))))))))) (by kernel_rfl) (by kernel_rfl) (rts_sc rfl)
    · have h := h.2 c12
      have g_45 := (abt (bne_t c12))
      rw [h]
      exact sr (ids := []) (vs := [boo false]) (mem := []) (e_1 (e_3 (d11 g_45 (d11 g_45 (d11 g_45 (d11 abtt (d11 abtt (d11 abtt (d11 abtt (d11 abtt (d11 abtt (d11 abtt (d11 abtt (d11 abtt (d11 abtt (d11 abtt (d11 abtt (d11 abtt (d11 abtt (d11 abtt (d11 abtt (d11 abtt (d11 abtt (d11 abtt (d11 abtt (d11 abtt (d11 abtt (d11 abtt (d11 abtt az))))))))))))))))))))))))))))) (by kernel_rfl) (by kernel_rfl) (rts_sc rfl)
  · have h := h.2 c11
    have g_46 := (abt (bne_t c11))
    rw [h]
    exact sr (ids := []) (vs := [boo false]) (mem := []) (e_1 (d11 g_46 (d11 g_46 (d11 g_46 (d11 abtt (d11 abtt (d11 abtt (d11 abtt (d11 abtt (d11 abtt (d11 abtt (d11 abtt (d11 abtt (d11 abtt (d11 abtt (d11 abtt (d11 abtt (d11 abtt (d11 abtt (d11 abtt (d11 abtt (d11 abtt (d11 abtt (d11 abtt (d11 abtt (d11 abtt (d11 abtt (d11 abtt (d11 abtt (d11 abtt (d11 abtt az))))))))))))))))))))))))))))))) (by kernel_rfl) (by kernel_rfl) (rts_sc rfl)
end Go.Ab
