/- A part of the proof. Conditions: those of each theorem. -/
import Derived.Test.YtjbodjmkfklleaaDoorETy
import Derived.Test.YtjbodjmkfklleaaDoorEWall
set_option linter.unusedVariables false
set_option linter.unusedSimpArgs false
set_option linter.unusedSectionVars false

namespace Go.Ab
open Go.Proofs
set_option maxRecDepth 1000000
set_option linter.unusedVariables false
attribute [local irreducible] todoQ
-- garmentlaw22.SeamGrades
abbrev garmentlaw22_SeamGrades_V (listappend : Piece) (a : Piece) (a2 : Garmentlaw22Edges) (r0 : Bool) : Prop := (∃ (light1 : Bool), Ret Tryd.prog XS 19 [.agg [str listappend.name, .sl 2 (listappend.edges.map cEdge), int listappend.grain, .sl 2 (listappend.notches.map cNotch), .sl 2 (listappend.corners.map cSpot), .sl 1 (listappend.widths.map cI), boo listappend.match_], int 80] (boo light1) ∧ ((light1 = true → (∃ (light2 : Bool), Ret Tryd.prog XS 19 [.agg [str a.name, .sl 2 (a.edges.map cEdge), int a.grain, .sl 2 (a.notches.map cNotch), .sl 2 (a.corners.map cSpot), .sl 1 (a.widths.map cI), boo a.match_], int 80] (boo light2) ∧ ((light2 = true → (∃ (graded3a : List Edge) (graded3b : Int), Ret Tryd.prog XS 20 [.agg [str listappend.name, .sl 2 (listappend.edges.map cEdge), int listappend.grain, .sl 2 (listappend.notches.map cNotch), .sl 2 (listappend.corners.map cSpot), .sl 1 (listappend.widths.map cI), boo listappend.match_], int a2.multiple] (.tup [.fr 2 (graded3a.map cEdge), int graded3b]) ∧ (∃ (graded4a : List Edge) (graded4b : Int), Ret Tryd.prog XS 20 [.agg [str a.name, .sl 2 (a.edges.map cEdge), int a.grain, .sl 2 (a.notches.map cNotch), .sl 2 (a.corners.map cSpot), .sl 1 (a.widths.map cI), boo a.match_], int a2.multiple] (.tup [.fr 2 (graded4a.map cEdge), int graded4b]) ∧ ((graded3b = 0 → ((graded4b = 0 → ((a2.i < 0 → (∃ (alive5 : Bool), Ret Tryd.prog XS 12 [] (boo alive5) ∧ r0 = alive5)) ∧ (¬ (a2.i < 0) → ((a2.i ≥ ((graded3a.length : Nat) : Int) → (∃ (alive5 : Bool), Ret Tryd.prog XS 12 [] (boo alive5) ∧ r0 = alive5)) ∧ (¬ (a2.i ≥ ((graded3a.length : Nat) : Int)) → ((a2.k < 0 → (∃ (alive5 : Bool), Ret Tryd.prog XS 12 [] (boo alive5) ∧ r0 = alive5)) ∧ (¬ (a2.k < 0) → ((a2.k ≥ ((graded4a.length : Nat) : Int) → (∃ (alive5 : Bool), Ret Tryd.prog XS 12 [] (boo alive5) ∧ r0 = alive5)) ∧ (¬ (a2.k ≥ ((graded4a.length : Nat) : Int)) → ((((graded3a.length : Nat) : Int) = ((listappend.edges.length : Nat) : Int) → ((((graded4a.length : Nat) : Int) = ((a.edges.length : Nat) : Int) → (Idx a2.i listappend.edges.length) ∧ (Idx a2.k a.edges.length) ∧ (∃ (congruent5a : Turn) (congruent5b : Spot) (congruent5c : Bool), Ret Tryd.prog XS 13 [.sl 2 (((ai listappend.edges a2.i).line).map cSpot), .sl 2 (((ai a.edges a2.k).line).map cSpot)] (.tup [.agg [boo congruent5a.flip, int congruent5a.quarter], .agg [int congruent5b.x, int congruent5b.y], boo congruent5c]) ∧ ((congruent5c = true → ((((listappend.corners.length : Nat) : Int) = ((graded3a.length : Nat) : Int) → ((((a.corners.length : Nat) : Int) = ((graded4a.length : Nat) : Int) → (Idx a2.i listappend.corners.length) ∧ (∃ (apply6 : Spot), Ret Tryd.prog XS 21 [.agg [boo congruent5a.flip, int congruent5a.quarter], .agg [int ((ai listappend.corners a2.i).x), int ((ai listappend.corners a2.i).y)]] (.agg [int apply6.x, int apply6.y]) ∧ (InR (a2.i + 1)) ∧ (((graded3a.length : Nat) : Int) ≠ 0) ∧ (Idx ((a2.i + 1).tmod ((graded3a.length : Nat) : Int)) listappend.corners.length) ∧ (∃ (apply7 : Spot), Ret Tryd.prog XS 21 [.agg [boo congruent5a.flip, int congruent5a.quarter], .agg [int ((ai listappend.corners ((a2.i + 1).tmod ((graded3a.length : Nat) : Int))).x), int ((ai listappend.corners ((a2.i + 1).tmod ((graded3a.length : Nat) : Int))).y)]] (.agg [int apply7.x, int apply7.y]) ∧ (Idx a2.k a.corners.length) ∧ ((apply6 = (ai a.corners a2.k) → (InR (a2.k + 1)) ∧ (((graded4a.length : Nat) : Int) ≠ 0) ∧ (Idx ((a2.k + 1).tmod ((graded4a.length : Nat) : Int)) a.corners.length) ∧ ((apply7 = (ai a.corners ((a2.k + 1).tmod ((graded4a.length : Nat) : Int))) → (Idx a2.i graded3a.length) ∧ (Idx a2.k graded4a.length) ∧ (∃ (congruent8a : Turn) (congruent8b : Spot) (congruent8c : Bool), Ret Tryd.prog XS 13 [.sl 2 (((ai graded3a a2.i).line).map cSpot), .sl 2 (((ai graded4a a2.k).line).map cSpot)] (.tup [.agg [boo congruent8a.flip, int congruent8a.quarter], .agg [int congruent8b.x, int congruent8b.y], boo congruent8c]) ∧ (∃ (length9a : Int) (length9b : Int), Ret Tryd.prog XS 22 [.sl 2 (((ai graded3a a2.i).line).map cSpot)] (.tup [int length9a, int length9b]) ∧ (∃ (length10a : Int) (length10b : Int), Ret Tryd.prog XS 22 [.sl 2 (((ai graded4a a2.k).line).map cSpot)] (.tup [int length10a, int length10b]) ∧ ((congruent8c = true → ((length9b = 0 → ((length10b = 0 → ((length9a = length10a → (∃ (alive11 : Bool), Ret Tryd.prog XS 12 [] (boo alive11) ∧ r0 = alive11)) ∧ (¬ (length9a = length10a) → r0 = false))) ∧ (¬ (length10b = 0) → r0 = false))) ∧ (¬ (length9b = 0) → r0 = false))) ∧ (congruent8c = false → r0 = false)))))) ∧ (¬ (apply7 = (ai a.corners ((a2.k + 1).tmod ((graded4a.length : Nat) : Int)))) → (∃ (alive8 : Bool), Ret Tryd.prog XS 12 [] (boo alive8) ∧ r0 = alive8)))) ∧ (¬ (apply6 = (ai a.corners a2.k)) → (∃ (alive8 : Bool), Ret Tryd.prog XS 12 [] (boo alive8) ∧ r0 = alive8)))))) ∧ (¬ (((a.corners.length : Nat) : Int) = ((graded4a.length : Nat) : Int)) → (∃ (alive6 : Bool), Ret Tryd.prog XS 12 [] (boo alive6) ∧ r0 = alive6)))) ∧ (¬ (((listappend.corners.length : Nat) : Int) = ((graded3a.length : Nat) : Int)) → (∃ (alive6 : Bool), Ret Tryd.prog XS 12 [] (boo alive6) ∧ r0 = alive6)))) ∧ (congruent5c = false → (∃ (alive6 : Bool), Ret Tryd.prog XS 12 [] (boo alive6) ∧ r0 = alive6))))) ∧ (¬ (((graded4a.length : Nat) : Int) = ((a.edges.length : Nat) : Int)) → (∃ (alive5 : Bool), Ret Tryd.prog XS 12 [] (boo alive5) ∧ r0 = alive5)))) ∧ (¬ (((graded3a.length : Nat) : Int) = ((listappend.edges.length : Nat) : Int)) → (∃ (alive5 : Bool), Ret Tryd.prog XS 12 [] (boo alive5) ∧ r0 = alive5)))))))))))) ∧ (¬ (graded4b = 0) → (∃ (alive5 : Bool), Ret Tryd.prog XS 12 [] (boo alive5) ∧ r0 = alive5)))) ∧ (¬ (graded3b = 0) → (∃ (alive5 : Bool), Ret Tryd.prog XS 12 [] (boo alive5) ∧ r0 = alive5)))))) ∧ (light2 = false → (∃ (alive3 : Bool), Ret Tryd.prog XS 12 [] (boo alive3) ∧ r0 = alive3))))) ∧ (light1 = false → (∃ (alive2 : Bool), Ret Tryd.prog XS 12 [] (boo alive2) ∧ r0 = alive2))))
theorem garmentlaw22_SeamGrades_W (listappend : Piece) (a : Piece) (a2 : Garmentlaw22Edges) (r0 : Bool) (h : garmentlaw22_SeamGrades_V listappend a a2 r0) : Ret Tryd.prog XS 7 [.agg [str listappend.name, .sl 2 (listappend.edges.map cEdge), int listappend.grain, .sl 2 (listappend.notches.map cNotch), .sl 2 (listappend.corners.map cSpot), .sl 1 (listappend.widths.map cI), boo listappend.match_], .agg [str a.name, .sl 2 (a.edges.map cEdge), int a.grain, .sl 2 (a.notches.map cNotch), .sl 2 (a.corners.map cSpot), .sl 1 (a.widths.map cI), boo a.match_], .agg [int a2.i, int a2.k, int a2.multiple]] (boo r0) := by
  refine fn_rule Tryd.func7 (by kernel_rfl) (by kernel_rfl) (by kernel_rfl) (by kernel_rfl) ?_
  obtain ⟨light1, c1, h⟩ := h
  have e_1 := fun {o : Orc} {q : List Prop} (r : At o q) => (d11 (ocs c1) r)
  rcases Bool.eq_false_or_eq_true light1 with c2 | c2
  · have h := h.1 c2
    obtain ⟨light2, c3, h⟩ := h
    have g_2 := (abf (not_f c2))
    have e_3 := fun {o : Orc} {q : List Prop} (r : At o q) => (d11 g_2 (d11 g_2 (d11 (ocs c3) (d11 g_2 (d11 g_2 r)))))
    rcases Bool.eq_false_or_eq_true light2 with c4 | c4
    · have h := h.1 c4
      obtain ⟨graded3a, graded3b, c5, graded4a, graded4b, c6, h⟩ := h
      have e_4 := fun {o : Orc} {q : List Prop} (r : At o q) => (d11 (abf (not_f c4)) (d11 (ocs c5) (d11 (ocs c6) r)))
      by_cases c7 : graded3b = 0
      · have h := h.1 c7
        have g_5 := (abf (bne_f c7))
        have e_6 := fun {o : Orc} {q : List Prop} (r : At o q) => (d11 g_5 (d11 g_5 (d11 g_5 r)))
        by_cases c8 : graded4b = 0
        · have h := h.1 c8
          have g_7 := (abf (bne_f c8))
          have e_8 := fun {o : Orc} {q : List Prop} (r : At o q) => (d11 g_7 (d11 g_7 (d11 g_7 (d11 g_7 r))))
          by_cases c9 : a2.i < 0
          · have h := h.1 c9
            obtain ⟨alive5, c10, h⟩ := h
            have g_9 := (abt (dec_t c9))
            rw [h]
            exact sr (ids := []) (vs := [boo alive5]) (mem := []) (e_1 (e_3 (e_4 (e_6 (e_8 (d11 g_9 (d11 g_9 (d11 g_9 (d11 g_9 (d11 g_9 (d11 g_9 (d11 abtt (d11 abtt (d11 abtt (d11 abtt (d11 abtt (d11 abtt (d11 abtt (d11 abtt (d11 abtt (d11 abtt (d11 abtt (d11 abtt (d11 abtt (d11 abtt (d11 abtt (d11 abtt (d11 abtt (d11 abtt (d11 abtt (d11 abtt (d11 abtt (d11 abtt (d11 abtt (d11 abtt (d11 abtt (d11 (ocs c10) az))))))))))))))))))))))))))))))))))))) (by kernel_rfl) (by kernel_rfl) (rts_sc rfl)
          · have h := h.2 c9
            have g_10 := (abf (dec_f c9))
            have g_11 := (oleno Tryd.prog 56 3 0 ((graded3a.map cEdge).length) graded3a.length (List.length_map ..) (by kernel_rfl))
            have e_12 := fun {o : Orc} {q : List Prop} (r : At o q) => (d11 g_10 (d11 g_10 (d11 g_10 (d11 g_10 (d11 g_11 (d11 g_10 (d11 g_10 r)))))))
            by_cases c10 : a2.i ≥ ((graded3a.length : Nat) : Int)
            · have h := h.1 c10
              obtain ⟨alive5, c11, h⟩ := h
              have g_13 := (abt (dec_t c10))
              rw [h]
              exact sr (ids := []) (vs := [boo alive5]) (mem := []) (e_1 (e_3 (e_4 (e_6 (e_8 (e_12 (d11 g_13 (d11 g_13 (d11 g_13 (d11 g_13 (d11 abtt (d11 abtt (d11 abtt (d11 abtt (d11 abtt (d11 abtt (d11 abtt (d11 abtt (d11 abtt (d11 abtt (d11 abtt (d11 abtt (d11 abtt (d11 abtt (d11 abtt (d11 abtt (d11 abtt (d11 abtt (d11 abtt (d11 abtt (d11 abtt (d11 (ocs c11) az)))))))))))))))))))))))))))))))) (by kernel_rfl) (by kernel_rfl) (rts_sc rfl)
            · have h := h.2 c10
              have g_14 := (abf (dec_f c10))
              have e_15 := fun {o : Orc} {q : List Prop} (r : At o q) => (d11 g_14 (d11 g_14 (d11 g_14 (d11 g_14 r))))
              by_cases c11 : a2.k < 0
              · have h := h.1 c11
                obtain ⟨alive5, c12, h⟩ := h
                have g_16 := (abt (dec_t c11))
                rw [h]
                exact sr (ids := []) (vs := [boo alive5]) (mem := []) (e_1 (e_3 (e_4 (e_6 (e_8 (e_12 (e_15 (d11 g_16 (d11 g_16 (d11 g_16 (d11 g_16 (d11 g_16 (d11 g_16 (d11 abtt (d11 abtt (d11 abtt (d11 abtt (d11 abtt (d11 abtt (d11 abtt (d11 abtt (d11 abtt (d11 abtt (d11 abtt (d11 abtt (d11 abtt (d11 abtt (d11 abtt (d11 (ocs c12) az))))))))))))))))))))))))))))) (by kernel_rfl) (by kernel_rfl) (rts_sc rfl)
              · have h := h.2 c11
                have g_17 := (abf (dec_f c11))
                have g_18 := (oleno Tryd.prog 56 4 0 ((graded4a.map cEdge).length) graded4a.length (List.length_map ..) (by kernel_rfl))
                have e_19 := fun {o : Orc} {q : List Prop} (r : At o q) => (d11 g_17 (d11 g_17 (d11 g_17 (d11 g_17 (d11 g_18 (d11 g_17 (d11 g_17 r)))))))
                by_cases c12 : a2.k ≥ ((graded4a.length : Nat) : Int)
                · have h := h.1 c12
                  obtain ⟨alive5, c13, h⟩ := h
                  have g_20 := (abt (dec_t c12))
                  rw [h]
                  exact sr (ids := []) (vs := [boo alive5]) (mem := []) (e_1 (e_3 (e_4 (e_6 (e_8 (e_12 (e_15 (e_19 (d11 g_20 (d11 g_20 (d11 g_20 (d11 g_20 (d11 g_20 (d11 g_20 (d11 g_20 (d11 abtt (d11 abtt (d11 abtt (d11 abtt (d11 abtt (d11 abtt (d11 abtt (d11 abtt (d11 (ocs c13) az)))))))))))))))))))))))) (by kernel_rfl) (by kernel_rfl) (rts_sc rfl)
                · have h := h.2 c12
                  have g_21 := (abf (dec_f c12))
                  have e_22 := fun {o : Orc} {q : List Prop} (r : At o q) => (d11 g_21 (d11 g_21 (d11 g_11 (d11 g_21 (d11 g_21 (d11 g_21 (d11 (olen cEdge Tryd.prog 56 2 listappend.edges (by kernel_rfl)) (d11 g_21 (d11 g_21 r)))))))))
                  by_cases c13 : ((graded3a.length : Nat) : Int) = ((listappend.edges.length : Nat) : Int)
                  · have h := h.1 c13
                    have g_23 := (abf (bne_f c13))
                    have e_24 := fun {o : Orc} {q : List Prop} (r : At o q) => (d11 g_23 (d11 g_23 (d11 g_18 (d11 g_23 (d11 g_23 (d11 g_23 (d11 (olen cEdge Tryd.prog 56 2 a.edges (by kernel_rfl)) (d11 g_23 (d11 g_23 r)))))))))
                    by_cases c14 : ((graded4a.length : Nat) : Int) = ((a.edges.length : Nat) : Int)
                    · have h := h.1 c14
                      obtain ⟨c15, c16, congruent5a, congruent5b, congruent5c, c17, h⟩ := h
                      have e_25 := fun {o : Orc} {q : List Prop} (r : At o q) => (d11 (abf (bne_f c14)) (d11 (oidx cEdge c15) (d11 (oidx cEdge c16) (d11 (ocs c17) r))))
                      rcases Bool.eq_false_or_eq_true congruent5c with c18 | c18
                      · have h := h.1 c18
                        have g_26 := (abf (not_f c18))
                        have e_27 := fun {o : Orc} {q : List Prop} (r : At o q) => (d11 g_26 (d11 g_26 (d11 g_26 (d11 (olen cSpot Tryd.prog 29 2 listappend.corners (by kernel_rfl)) (d11 g_26 (d11 g_26 (d11 g_11 (d11 g_26 (d11 g_26 r)))))))))
                        by_cases c19 : ((listappend.corners.length : Nat) : Int) = ((graded3a.length : Nat) : Int)
                        · have h := h.1 c19
                          have g_28 := (abf (bne_f c19))
                          have e_29 := fun {o : Orc} {q : List Prop} (r : At o q) => (d11 g_28 (d11 g_28 (d11 g_28 (d11 (olen cSpot Tryd.prog 29 2 a.corners (by kernel_rfl)) (d11 g_28 (d11 g_28 (d11 g_18 (d11 g_28 (d11 g_28 r)))))))))
                          by_cases c20 : ((a.corners.length : Nat) : Int) = ((graded4a.length : Nat) : Int)
                          · have h := h.1 c20
                            obtain ⟨c21, apply6, c22, c23, c24, c25, apply7, c26, c27, h⟩ := h
                            have e_30 := fun {o : Orc} {q : List Prop} (r : At o q) => (d11 (abf (bne_f c20)) (d11 (oidx cSpot c21) (d11 (ocs c22) (d11 (oadd Tryd.prog 3 (wi64 c23)) (d11 g_11 (d11 (orem Tryd.prog 3 .i64 (a2.i + 1) ((graded3a.length : Nat) : Int) c24) (d11 (oidx cSpot c25) (d11 (ocs c26) (d11 (oidx cSpot c27) r)))))))))
                            by_cases c28 : apply6 = (ai a.corners a2.k)
                            · have h := h.1 c28
                              obtain ⟨c29, c30, c31, h⟩ := h
                              have g_31 := (abf (not_f (sSpot_t c28)))
                              have e_32 := fun {o : Orc} {q : List Prop} (r : At o q) => (d11 g_31 (d11 g_31 (d11 g_31 (d11 g_31 (d11 g_31 (d11 g_31 (d11 (oadd Tryd.prog 3 (wi64 c29)) (d11 g_31 (d11 g_31 (d11 g_18 (d11 g_31 (d11 (orem Tryd.prog 3 .i64 (a2.k + 1) ((graded4a.length : Nat) : Int) c30) (d11 g_31 (d11 (oidx cSpot c31) (d11 g_31 (d11 g_31 (d11 g_31 r)))))))))))))))))
                              by_cases c32 : apply7 = (ai a.corners ((a2.k + 1).tmod ((graded4a.length : Nat) : Int)))
                              · have h := h.1 c32
                                obtain ⟨c33, c34, congruent8a, congruent8b, congruent8c, c35, length9a, length9b, c36, length10a, length10b, c37, h⟩ := h
                                have g_33 := (oown cEdge (n := (graded3a.map cEdge).length) (List.length_map ..) c33)
                                have g_34 := (orow cEdge c33)
                                have g_35 := (oown cEdge (n := (graded4a.map cEdge).length) (List.length_map ..) c34)
                                have g_36 := (orow cEdge c34)
                                have e_37 := fun {o : Orc} {q : List Prop} (r : At o q) => (d11 (abf (not_f (sSpot_t c32))) (d01 g_33 (d11 g_34 (d01 g_35 (d11 g_36 (d11 (ocs c35) (d01 g_33 (d11 g_34 (d11 (ocs c36) (d01 g_35 (d11 g_36 (d11 (ocs c37) r))))))))))))
                                rcases Bool.eq_false_or_eq_true congruent8c with c38 | c38
                                · have h := h.1 c38
                                  have e_38 := fun {o : Orc} {q : List Prop} (r : At o q) => (d11 (abt c38) (d11 (abt c38) (d11 (abt c38) r)))
                                  by_cases c39 : length9b = 0
                                  · have h := h.1 c39
                                    have g_39 := (abt (beq_t c39))
                                    have e_40 := fun {o : Orc} {q : List Prop} (r : At o q) => (d11 g_39 (d11 g_39 (d11 g_39 r)))
                                    by_cases c40 : length10b = 0
                                    · have h := h.1 c40
                                      have g_41 := (abt (beq_t c40))
                                      have e_42 := fun {o : Orc} {q : List Prop} (r : At o q) => (d11 g_41 (d11 g_41 (d11 g_41 (d11 g_41 r))))
                                      by_cases c41 : length9a = length10a
                                      · have h := h.1 c41
                                        obtain ⟨alive11, c42, h⟩ := h
                                        have g_43 := (abt (beq_t c41))
                                        rw [h]
                                        exact sr (ids := []) (vs := [boo alive11]) (mem := []) (e_1 (e_3 (e_4 (e_6 (e_8 (e_12 (e_15 (e_19 (e_22 (e_24 (e_25 (e_27 (e_29 (e_30 (e_32 (e_37 (e_38 (e_40 (e_42 (d11 g_43 (d11 (ocs c42) (d11 g_43 az)))))))))))))))))))))) (by kernel_rfl) (by kernel_rfl) (rts_sc rfl)
                                      · have h := h.2 c41
                                        have g_44 := (abf (beq_f c41))
                                        rw [h]
                                        exact sr (ids := []) (vs := [boo false]) (mem := []) (e_1 (e_3 (e_4 (e_6 (e_8 (e_12 (e_15 (e_19 (e_22 (e_24 (e_25 (e_27 (e_29 (e_30 (e_32 (e_37 (e_38 (e_40 (e_42 (d11 g_44 (d11 g_44 az))))))))))))))))))))) (by kernel_rfl) (by kernel_rfl) (rts_sc rfl)
                                    · have h := h.2 c40
                                      have g_45 := (abf (beq_f c40))
                                      rw [h]
                                      exact sr (ids := []) (vs := [boo false]) (mem := []) (e_1 (e_3 (e_4 (e_6 (e_8 (e_12 (e_15 (e_19 (e_22 (e_24 (e_25 (e_27 (e_29 (e_30 (e_32 (e_37 (e_38 (e_40 (d11 g_45 (d11 g_45 (d11 g_45 (d11 g_45 (d11 abff (d11 abff az)))))))))))))))))))))))) (by kernel_rfl) (by kernel_rfl) (rts_sc rfl)
                                  · have h := h.2 c39
                                    have g_46 := (abf (beq_f c39))
                                    rw [h]
                                    exact sr (ids := []) (vs := [boo false]) (mem := []) (e_1 (e_3 (e_4 (e_6 (e_8 (e_12 (e_15 (e_19 (e_22 (e_24 (e_25 (e_27 (e_29 (e_30 (e_32 (e_37 (e_38 (d11 g_46 (d11 g_46 (d11 g_46 (d11 abff (d11 abff (d11 abff (d11 abff (d11 abff (d11 abff az)))))))))))))))))))))))))) (by kernel_rfl) (by kernel_rfl) (rts_sc rfl)
                                · have h := h.2 c38
                                  rw [h]
                                  exact sr (ids := []) (vs := [boo false]) (mem := []) (e_1 (e_3 (e_4 (e_6 (e_8 (e_12 (e_15 (e_19 (e_22 (e_24 (e_25 (e_27 (e_29 (e_30 (e_32 (e_37 (d11 (abf c38) (d11 (abf c38) (d11 (abf c38) (d11 abff (d11 abff (d11 abff (d11 abff (d11 abff (d11 abff (d11 abff (d11 abff (d11 abff az)))))))))))))))))))))))))))) (by kernel_rfl) (by kernel_rfl) (rts_sc rfl)
                              · have h := h.2 c32
                                obtain ⟨alive8, c33, h⟩ := h
                                rw [h]
                                exact sr (ids := []) (vs := [boo alive8]) (mem := []) (e_1 (e_3 (e_4 (e_6 (e_8 (e_12 (e_15 (e_19 (e_22 (e_24 (e_25 (e_27 (e_29 (e_30 (e_32 (d11 (abt (not_t (sSpot_f c32))) (d11 (ocs c33) az))))))))))))))))) (by kernel_rfl) (by kernel_rfl) (rts_sc rfl)
                            · have h := h.2 c28
                              obtain ⟨alive8, c29, h⟩ := h
                              have g_47 := (abt (not_t (sSpot_f c28)))
                              rw [h]
                              exact sr (ids := []) (vs := [boo alive8]) (mem := []) (e_1 (e_3 (e_4 (e_6 (e_8 (e_12 (e_15 (e_19 (e_22 (e_24 (e_25 (e_27 (e_29 (e_30 (d11 g_47 (d11 g_47 (d11 g_47 (d11 g_47 (d11 g_47 (d11 g_47 (d11 g_47 (d11 g_47 (d11 g_47 (d11 g_47 (d11 g_47 (d11 g_47 (d11 g_47 (d11 abtt (d11 (ocs c29) az))))))))))))))))))))))))))))) (by kernel_rfl) (by kernel_rfl) (rts_sc rfl)
                          · have h := h.2 c20
                            obtain ⟨alive6, c21, h⟩ := h
                            rw [h]
                            exact sr (ids := []) (vs := [boo alive6]) (mem := []) (e_1 (e_3 (e_4 (e_6 (e_8 (e_12 (e_15 (e_19 (e_22 (e_24 (e_25 (e_27 (e_29 (d11 (abt (bne_t c20)) (d11 (ocs c21) az))))))))))))))) (by kernel_rfl) (by kernel_rfl) (rts_sc rfl)
                        · have h := h.2 c19
                          obtain ⟨alive6, c20, h⟩ := h
                          have g_48 := (abt (bne_t c19))
                          rw [h]
                          exact sr (ids := []) (vs := [boo alive6]) (mem := []) (e_1 (e_3 (e_4 (e_6 (e_8 (e_12 (e_15 (e_19 (e_22 (e_24 (e_25 (e_27 (d11 g_48 (d11 g_48 (d11 g_48 (d11 g_48 (d11 g_48 (d11 g_48 (d11 g_48 (d11 abtt (d11 (ocs c20) az))))))))))))))))))))) (by kernel_rfl) (by kernel_rfl) (rts_sc rfl)
                      · have h := h.2 c18
                        obtain ⟨alive6, c19, h⟩ := h
                        have g_49 := (abt (not_t c18))
                        rw [h]
                        exact sr (ids := []) (vs := [boo alive6]) (mem := []) (e_1 (e_3 (e_4 (e_6 (e_8 (e_12 (e_15 (e_19 (e_22 (e_24 (e_25 (d11 g_49 (d11 g_49 (d11 g_49 (d11 g_49 (d11 g_49 (d11 g_49 (d11 g_49 (d11 abtt (d11 abtt (d11 abtt (d11 abtt (d11 abtt (d11 abtt (d11 abtt (d11 abtt (d11 (ocs c19) az))))))))))))))))))))))))))) (by kernel_rfl) (by kernel_rfl) (rts_sc rfl)
                    · have h := h.2 c14
                      obtain ⟨alive5, c15, h⟩ := h
                      rw [h]
                      exact sr (ids := []) (vs := [boo alive5]) (mem := []) (e_1 (e_3 (e_4 (e_6 (e_8 (e_12 (e_15 (e_19 (e_22 (e_24 (d11 (abt (bne_t c14)) (d11 (ocs c15) az)))))))))))) (by kernel_rfl) (by kernel_rfl) (rts_sc rfl)
                  · have h := h.2 c13
                    obtain ⟨alive5, c14, h⟩ := h
                    have g_50 := (abt (bne_t c13))
                    rw [h]
                    exact sr (ids := []) (vs := [boo alive5]) (mem := []) (e_1 (e_3 (e_4 (e_6 (e_8 (e_12 (e_15 (e_19 (e_22 (d11 g_50 (d11 g_50 (d11 g_50 (d11 g_50 (d11 g_50 (d11 g_50 (d11 g_50 (d11 abtt (d11 (ocs c14) az)))))))))))))))))) (by kernel_rfl) (by kernel_rfl) (rts_sc rfl)
        · have h := h.2 c8
          obtain ⟨alive5, c9, h⟩ := h
          have g_51 := (abt (bne_t c8))
          rw [h]
          exact sr (ids := []) (vs := [boo alive5]) (mem := []) (e_1 (e_3 (e_4 (e_6 (d11 g_51 (d11 g_51 (d11 g_51 (d11 g_51 (d11 abtt (d11 abtt (d11 abtt (d11 abtt (d11 abtt (d11 abtt (d11 abtt (d11 abtt (d11 abtt (d11 abtt (d11 abtt (d11 abtt (d11 abtt (d11 abtt (d11 abtt (d11 abtt (d11 abtt (d11 abtt (d11 abtt (d11 abtt (d11 abtt (d11 abtt (d11 abtt (d11 abtt (d11 abtt (d11 abtt (d11 abtt (d11 abtt (d11 abtt (d11 abtt (d11 abtt (d11 (ocs c9) az)))))))))))))))))))))))))))))))))))))))) (by kernel_rfl) (by kernel_rfl) (rts_sc rfl)
      · have h := h.2 c7
        obtain ⟨alive5, c8, h⟩ := h
        have g_52 := (abt (bne_t c7))
        rw [h]
        exact sr (ids := []) (vs := [boo alive5]) (mem := []) (e_1 (e_3 (e_4 (d11 g_52 (d11 g_52 (d11 g_52 (d11 abtt (d11 abtt (d11 abtt (d11 abtt (d11 abtt (d11 abtt (d11 abtt (d11 abtt (d11 abtt (d11 abtt (d11 abtt (d11 abtt (d11 abtt (d11 abtt (d11 abtt (d11 abtt (d11 abtt (d11 abtt (d11 abtt (d11 abtt (d11 abtt (d11 abtt (d11 abtt (d11 abtt (d11 abtt (d11 abtt (d11 abtt (d11 abtt (d11 abtt (d11 abtt (d11 abtt (d11 abtt (d11 abtt (d11 abtt (d11 abtt (d11 (ocs c8) az)))))))))))))))))))))))))))))))))))))))))) (by kernel_rfl) (by kernel_rfl) (rts_sc rfl)
    · have h := h.2 c4
      obtain ⟨alive3, c5, h⟩ := h
      rw [h]
      exact sr (ids := []) (vs := [boo alive3]) (mem := []) (e_1 (e_3 (d11 (abt (not_t c4)) (d11 (ocs c5) az)))) (by kernel_rfl) (by kernel_rfl) (rts_sc rfl)
  · have h := h.2 c2
    obtain ⟨alive2, c3, h⟩ := h
    have g_53 := (abt (not_t c2))
    rw [h]
    exact sr (ids := []) (vs := [boo alive2]) (mem := []) (e_1 (d11 g_53 (d11 g_53 (d11 g_53 (d11 g_53 (d11 abtt (d11 (ocs c3) az))))))) (by kernel_rfl) (by kernel_rfl) (rts_sc rfl)
end Go.Ab
