/- A part of the proof. Conditions: those of each theorem. -/
import Derived.Test.YtjbodjmkfklleaaDoorETy
import Derived.Test.YtjbodjmkfklleaaDoorEX
set_option linter.unusedVariables false
set_option linter.unusedSimpArgs false
set_option linter.unusedSectionVars false

section
namespace Go.Ab
open Go.Proofs
set_option maxRecDepth 1000000
set_option linter.unusedVariables false
attribute [local irreducible] todoQ
-- seam.Lengths
abbrev seam_Lengths_V (listappend : Style) (a : Int) (a2 : Int) (r0 : Int) (r1 : Int) (r2 : Int) : Prop := ((a < 0 → r0 = 0 ∧ r1 = 0 ∧ r2 = 3) ∧ (¬ (a < 0) → ((a ≥ ((listappend.multiples.length : Nat) : Int) → r0 = 0 ∧ r1 = 0 ∧ r2 = 3) ∧ (¬ (a ≥ ((listappend.multiples.length : Nat) : Int)) → ((a2 < 0 → r0 = 0 ∧ r1 = 0 ∧ r2 = 3) ∧ (¬ (a2 < 0) → ((a2 ≥ ((listappend.seams.length : Nat) : Int) → r0 = 0 ∧ r1 = 0 ∧ r2 = 3) ∧ (¬ (a2 ≥ ((listappend.seams.length : Nat) : Int)) → (Idx a2 listappend.seams.length) ∧ (Idx a listappend.multiples.length) ∧ (∃ (exists1 : Bool), Ret Tryd.prog XS 30 [.agg [str listappend.name, .sl 1 (listappend.sizes.map cS), .sl 1 (listappend.multiples.map cI), .sl 7 (listappend.pieces.map cPiece), .sl 3 (listappend.uses.map cUseOf), .sl 6 (listappend.seams.map cSeam), .sl 5 (listappend.ops.map cOperation)], int ((ai listappend.seams a2).pieceA), int ((ai listappend.seams a2).edgeA)] (boo exists1) ∧ ((exists1 = true → (∃ (exists2 : Bool), Ret Tryd.prog XS 30 [.agg [str listappend.name, .sl 1 (listappend.sizes.map cS), .sl 1 (listappend.multiples.map cI), .sl 7 (listappend.pieces.map cPiece), .sl 3 (listappend.uses.map cUseOf), .sl 6 (listappend.seams.map cSeam), .sl 5 (listappend.ops.map cOperation)], int ((ai listappend.seams a2).pieceB), int ((ai listappend.seams a2).edgeB)] (boo exists2) ∧ ((exists2 = true → (Idx ((ai listappend.seams a2).pieceA) listappend.pieces.length) ∧ (∃ (edge3a : Int) (edge3b : Int), Ret Tryd.prog XS 31 [.agg [str ((ai listappend.pieces ((ai listappend.seams a2).pieceA)).name), .sl 2 (((ai listappend.pieces ((ai listappend.seams a2).pieceA)).edges).map cEdge), int ((ai listappend.pieces ((ai listappend.seams a2).pieceA)).grain), .sl 2 (((ai listappend.pieces ((ai listappend.seams a2).pieceA)).notches).map cNotch), .sl 2 (((ai listappend.pieces ((ai listappend.seams a2).pieceA)).corners).map cSpot), .sl 1 (((ai listappend.pieces ((ai listappend.seams a2).pieceA)).widths).map cI), boo ((ai listappend.pieces ((ai listappend.seams a2).pieceA)).match_)], int ((ai listappend.seams a2).edgeA), int (ai listappend.multiples a)] (.tup [int edge3a, int edge3b]) ∧ ((edge3b = 0 → (Idx ((ai listappend.seams a2).pieceB) listappend.pieces.length) ∧ (∃ (edge4a : Int) (edge4b : Int), Ret Tryd.prog XS 31 [.agg [str ((ai listappend.pieces ((ai listappend.seams a2).pieceB)).name), .sl 2 (((ai listappend.pieces ((ai listappend.seams a2).pieceB)).edges).map cEdge), int ((ai listappend.pieces ((ai listappend.seams a2).pieceB)).grain), .sl 2 (((ai listappend.pieces ((ai listappend.seams a2).pieceB)).notches).map cNotch), .sl 2 (((ai listappend.pieces ((ai listappend.seams a2).pieceB)).corners).map cSpot), .sl 1 (((ai listappend.pieces ((ai listappend.seams a2).pieceB)).widths).map cI), boo ((ai listappend.pieces ((ai listappend.seams a2).pieceB)).match_)], int ((ai listappend.seams a2).edgeB), int (ai listappend.multiples a)] (.tup [int edge4a, int edge4b]) ∧ ((edge4b = 0 → r0 = edge3a ∧ r1 = edge4a ∧ r2 = 0) ∧ (¬ (edge4b = 0) → r0 = 0 ∧ r1 = 0 ∧ r2 = edge4b)))) ∧ (¬ (edge3b = 0) → r0 = 0 ∧ r1 = 0 ∧ r2 = edge3b)))) ∧ (exists2 = false → r0 = 0 ∧ r1 = 0 ∧ r2 = 3)))) ∧ (exists1 = false → r0 = 0 ∧ r1 = 0 ∧ r2 = 3)))))))))))
theorem seam_Lengths_W (listappend : Style) (a : Int) (a2 : Int) (r0 : Int) (r1 : Int) (r2 : Int) (h : seam_Lengths_V listappend a a2 r0 r1 r2) : Ret Tryd.prog XS 16 [.agg [str listappend.name, .sl 1 (listappend.sizes.map cS), .sl 1 (listappend.multiples.map cI), .sl 7 (listappend.pieces.map cPiece), .sl 3 (listappend.uses.map cUseOf), .sl 6 (listappend.seams.map cSeam), .sl 5 (listappend.ops.map cOperation)], int a, int a2] (.tup [int r0, int r1, int r2]) := by
  refine fn_rule Tryd.func16 (by kernel_rfl) (by kernel_rfl) (by kernel_rfl) (by kernel_rfl) ?_
  by_cases c1 : a < 0
  · have h := h.1 c1
    have g_1 := (abt (dec_t c1))
    rw [h.1, h.2.1, h.2.2]
    exact sr (ids := []) (vs := [int 0, int 0, int 3]) (mem := []) (d11 g_1 (d11 g_1 (d11 g_1 (d11 g_1 (d11 g_1 (d11 g_1 (d11 abtt (d11 abtt (d11 abtt (d11 abtt (d11 abtt (d11 abtt (d11 abtt (d11 abtt (d11 abtt (d11 abtt az)))))))))))))))) (by kernel_rfl) (by kernel_rfl) (rts_sc (rts_sc (rts_sc rfl)))
  · have h := h.2 c1
    have g_2 := (abf (dec_f c1))
    have e_3 := fun {o : Orc} {q : List Prop} (r : At o q) => (d11 g_2 (d11 g_2 (d11 g_2 (d11 g_2 (d11 (olen cI Tryd.prog 40 1 listappend.multiples (by kernel_rfl)) (d11 g_2 (d11 g_2 r)))))))
    by_cases c2 : a ≥ ((listappend.multiples.length : Nat) : Int)
    · have h := h.1 c2
      have g_4 := (abt (dec_t c2))
      rw [h.1, h.2.1, h.2.2]
      exact sr (ids := []) (vs := [int 0, int 0, int 3]) (mem := []) (e_3 (d11 g_4 (d11 g_4 (d11 g_4 (d11 abtt (d11 abtt (d11 abtt (d11 abtt (d11 abtt (d11 abtt (d11 abtt az))))))))))) (by kernel_rfl) (by kernel_rfl) (rts_sc (rts_sc (rts_sc rfl)))
    · have h := h.2 c2
      have g_5 := (abf (dec_f c2))
      have e_6 := fun {o : Orc} {q : List Prop} (r : At o q) => (d11 g_5 (d11 g_5 (d11 g_5 r)))
      by_cases c3 : a2 < 0
      · have h := h.1 c3
        have g_7 := (abt (dec_t c3))
        rw [h.1, h.2.1, h.2.2]
        exact sr (ids := []) (vs := [int 0, int 0, int 3]) (mem := []) (e_3 (e_6 (d11 g_7 (d11 g_7 (d11 g_7 (d11 g_7 (d11 g_7 (d11 g_7 (d11 abtt az))))))))) (by kernel_rfl) (by kernel_rfl) (rts_sc (rts_sc (rts_sc rfl)))
      · have h := h.2 c3
        have g_8 := (abf (dec_f c3))
        have e_9 := fun {o : Orc} {q : List Prop} (r : At o q) => (d11 g_8 (d11 g_8 (d11 g_8 (d11 g_8 (d11 (olen cSeam Tryd.prog 43 6 listappend.seams (by kernel_rfl)) (d11 g_8 (d11 g_8 r)))))))
        by_cases c4 : a2 ≥ ((listappend.seams.length : Nat) : Int)
        · have h := h.1 c4
          rw [h.1, h.2.1, h.2.2]
          exact sr (ids := []) (vs := [int 0, int 0, int 3]) (mem := []) (e_3 (e_6 (e_9 (d11 (abt (dec_t c4)) az)))) (by kernel_rfl) (by kernel_rfl) (rts_sc (rts_sc (rts_sc rfl)))
        · have h := h.2 c4
          obtain ⟨c5, c6, exists1, c7, h⟩ := h
          have e_10 := fun {o : Orc} {q : List Prop} (r : At o q) => (d11 (abf (dec_f c4)) (d11 (oidx cSeam c5) (d11 (oidx cI c6) (d11 (ocs c7) r))))
          rcases Bool.eq_false_or_eq_true exists1 with c8 | c8
          · have h := h.1 c8
            obtain ⟨exists2, c9, h⟩ := h
            have g_11 := (abf (not_f c8))
            have e_12 := fun {o : Orc} {q : List Prop} (r : At o q) => (d11 g_11 (d11 g_11 (d11 g_11 (d11 g_11 (d11 g_11 (d11 g_11 (d11 (ocs c9) (d11 g_11 (d11 g_11 r)))))))))
            rcases Bool.eq_false_or_eq_true exists2 with c10 | c10
            · have h := h.1 c10
              obtain ⟨c11, edge3a, edge3b, c12, h⟩ := h
              have e_13 := fun {o : Orc} {q : List Prop} (r : At o q) => (d11 (abf (not_f c10)) (d11 (oidx cPiece c11) (d11 (ocs c12) r)))
              by_cases c13 : edge3b = 0
              · have h := h.1 c13
                obtain ⟨c14, edge4a, edge4b, c15, h⟩ := h
                have e_14 := fun {o : Orc} {q : List Prop} (r : At o q) => (d11 (abf (bne_f c13)) (d11 (oidx cPiece c14) (d11 (ocs c15) r)))
                by_cases c16 : edge4b = 0
                · have h := h.1 c16
                  rw [h.1, h.2.1, h.2.2]
                  exact sr (ids := []) (vs := [int edge3a, int edge4a, int 0]) (mem := []) (e_3 (e_6 (e_9 (e_10 (e_12 (e_13 (e_14 (d11 (abf (bne_f c16)) az)))))))) (by kernel_rfl) (by kernel_rfl) (rts_sc (rts_sc (rts_sc rfl)))
                · have h := h.2 c16
                  rw [h.1, h.2.1, h.2.2]
                  exact sr (ids := []) (vs := [int 0, int 0, int edge4b]) (mem := []) (e_3 (e_6 (e_9 (e_10 (e_12 (e_13 (e_14 (d11 (abt (bne_t c16)) az)))))))) (by kernel_rfl) (by kernel_rfl) (rts_sc (rts_sc (rts_sc rfl)))
              · have h := h.2 c13
                rw [h.1, h.2.1, h.2.2]
                exact sr (ids := []) (vs := [int 0, int 0, int edge3b]) (mem := []) (e_3 (e_6 (e_9 (e_10 (e_12 (e_13 (d11 (abt (bne_t c13)) az))))))) (by kernel_rfl) (by kernel_rfl) (rts_sc (rts_sc (rts_sc rfl)))
            · have h := h.2 c10
              rw [h.1, h.2.1, h.2.2]
              exact sr (ids := []) (vs := [int 0, int 0, int 3]) (mem := []) (e_3 (e_6 (e_9 (e_10 (e_12 (d11 (abt (not_t c10)) az)))))) (by kernel_rfl) (by kernel_rfl) (rts_sc (rts_sc (rts_sc rfl)))
          · have h := h.2 c8
            have g_15 := (abt (not_t c8))
            rw [h.1, h.2.1, h.2.2]
            exact sr (ids := []) (vs := [int 0, int 0, int 3]) (mem := []) (e_3 (e_6 (e_9 (e_10 (d11 g_15 (d11 g_15 (d11 g_15 (d11 g_15 (d11 g_15 (d11 g_15 (d11 g_15 (d11 g_15 (d11 abtt az))))))))))))) (by kernel_rfl) (by kernel_rfl) (rts_sc (rts_sc (rts_sc rfl)))

-- seam.exists
abbrev seam_exists_V (s0 : Style) (piece : Int) (edge : Int) (r0 : Bool) : Prop := ((piece ≥ 0 → ((piece < ((s0.pieces.length : Nat) : Int) → ((edge ≥ 0 → (Idx piece s0.pieces.length) ∧ r0 = (decide (edge < ((((ai s0.pieces piece).edges).length : Nat) : Int)))) ∧ (¬ (edge ≥ 0) → r0 = false))) ∧ (¬ (piece < ((s0.pieces.length : Nat) : Int)) → r0 = false))) ∧ (¬ (piece ≥ 0) → r0 = false))
theorem seam_exists_W (s0 : Style) (piece : Int) (edge : Int) (r0 : Bool) (h : seam_exists_V s0 piece edge r0) : Ret Tryd.prog XS 30 [.agg [str s0.name, .sl 1 (s0.sizes.map cS), .sl 1 (s0.multiples.map cI), .sl 7 (s0.pieces.map cPiece), .sl 3 (s0.uses.map cUseOf), .sl 6 (s0.seams.map cSeam), .sl 5 (s0.ops.map cOperation)], int piece, int edge] (boo r0) := by
  refine fn_rule Tryd.func30 (by kernel_rfl) (by kernel_rfl) (by kernel_rfl) (by kernel_rfl) ?_
  by_cases c1 : piece ≥ 0
  · have h := h.1 c1
    have g_1 := (abt (dec_t c1))
    have e_2 := fun {o : Orc} {q : List Prop} (r : At o q) => (d11 g_1 (d11 g_1 (d11 g_1 (d11 g_1 (d11 (olen cPiece Tryd.prog 41 7 s0.pieces (by kernel_rfl)) (d11 g_1 (d11 g_1 r)))))))
    by_cases c2 : piece < ((s0.pieces.length : Nat) : Int)
    · have h := h.1 c2
      have g_3 := (abt (dec_t c2))
      have e_4 := fun {o : Orc} {q : List Prop} (r : At o q) => (d11 g_3 (d11 g_3 (d11 g_3 r)))
      by_cases c3 : edge ≥ 0
      · have h := h.1 c3
        obtain ⟨c4, h⟩ := h
        have g_5 := (abt (dec_t c3))
        rw [h]
        exact sr (ids := []) (vs := [boo (decide (edge < ((((ai s0.pieces piece).edges).length : Nat) : Int)))]) (mem := []) (e_2 (e_4 (d11 g_5 (d11 g_5 (d11 g_5 (d11 g_5 (d11 g_5 (d11 (oidx cPiece c4) (d11 g_5 (d11 g_5 (d11 g_5 (d11 (olen cEdge Tryd.prog 56 2 ((ai s0.pieces piece).edges) (by kernel_rfl)) (d11 g_5 (d11 g_5 az)))))))))))))) (by kernel_rfl) (by kernel_rfl) (rts_sc rfl)
      · have h := h.2 c3
        have g_6 := (abf (dec_f c3))
        rw [h]
        exact sr (ids := []) (vs := [boo false]) (mem := []) (e_2 (e_4 (d11 g_6 (d11 g_6 (d11 g_6 (d11 g_6 (d11 g_6 (d11 g_6 (d11 g_6 (d11 g_6 (d11 g_6 (d11 g_6 az)))))))))))) (by kernel_rfl) (by kernel_rfl) (rts_sc rfl)
    · have h := h.2 c2
      have g_7 := (abf (dec_f c2))
      rw [h]
      exact sr (ids := []) (vs := [boo false]) (mem := []) (e_2 (d11 g_7 (d11 g_7 (d11 g_7 (d11 abff (d11 abff (d11 abff (d11 abff (d11 abff (d11 abff (d11 abff (d11 abff (d11 abff (d11 abff az)))))))))))))) (by kernel_rfl) (by kernel_rfl) (rts_sc rfl)
  · have h := h.2 c1
    have g_8 := (abf (dec_f c1))
    rw [h]
    exact sr (ids := []) (vs := [boo false]) (mem := []) (d11 g_8 (d11 g_8 (d11 g_8 (d11 g_8 (d11 g_8 (d11 g_8 (d11 abff (d11 abff (d11 abff (d11 abff (d11 abff (d11 abff (d11 abff (d11 abff (d11 abff (d11 abff (d11 abff (d11 abff (d11 abff az))))))))))))))))))) (by kernel_rfl) (by kernel_rfl) (rts_sc rfl)

-- seam.edge
abbrev seam_edge_V (p : Piece) (n : Int) (multiple : Int) (r0 : Int) (r1 : Int) : Prop := (∃ (graded1a : List Edge) (graded1b : Int), Ret Tryd.prog XS 20 [.agg [str p.name, .sl 2 (p.edges.map cEdge), int p.grain, .sl 2 (p.notches.map cNotch), .sl 2 (p.corners.map cSpot), .sl 1 (p.widths.map cI), boo p.match_], int multiple] (.tup [.fr 2 (graded1a.map cEdge), int graded1b]) ∧ ((graded1b = 0 → (Idx n graded1a.length) ∧ (∃ (length2a : Int) (length2b : Int), Ret Tryd.prog XS 22 [.sl 2 (((ai graded1a n).line).map cSpot)] (.tup [int length2a, int length2b]) ∧ r0 = length2a ∧ r1 = length2b)) ∧ (¬ (graded1b = 0) → r0 = 0 ∧ r1 = graded1b)))
theorem seam_edge_W (p : Piece) (n : Int) (multiple : Int) (r0 : Int) (r1 : Int) (h : seam_edge_V p n multiple r0 r1) : Ret Tryd.prog XS 31 [.agg [str p.name, .sl 2 (p.edges.map cEdge), int p.grain, .sl 2 (p.notches.map cNotch), .sl 2 (p.corners.map cSpot), .sl 1 (p.widths.map cI), boo p.match_], int n, int multiple] (.tup [int r0, int r1]) := by
  refine fn_rule Tryd.func31 (by kernel_rfl) (by kernel_rfl) (by kernel_rfl) (by kernel_rfl) ?_
  obtain ⟨graded1a, graded1b, c1, h⟩ := h
  have e_1 := fun {o : Orc} {q : List Prop} (r : At o q) => (d11 (ocs c1) r)
  by_cases c2 : graded1b = 0
  · have h := h.1 c2
    obtain ⟨c3, length2a, length2b, c4, h⟩ := h
    rw [h.1, h.2]
    exact sr (ids := []) (vs := [int length2a, int length2b]) (mem := []) (e_1 (d11 (abf (bne_f c2)) (d01 (oown cEdge (n := (graded1a.map cEdge).length) (List.length_map ..) c3) (d11 (orow cEdge c3) (d11 (ocs c4) az))))) (by kernel_rfl) (by kernel_rfl) (rts_sc (rts_sc rfl))
  · have h := h.2 c2
    rw [h.1, h.2]
    exact sr (ids := []) (vs := [int 0, int graded1b]) (mem := []) (e_1 (d11 (abt (bne_t c2)) az)) (by kernel_rfl) (by kernel_rfl) (rts_sc (rts_sc rfl))

-- grade.Graded
def grade_Graded_S0 (listappend : Piece) (a : Int) (v34 : Int) : AS := ⟨[(1, int a), (2, .ptr 0 0 0), (32, .sl 2 (listappend.corners.map cSpot)), (33, int ((listappend.corners.length : Nat) : Int)), (34, int v34)], [(0, .box [str listappend.name, .sl 2 (listappend.edges.map cEdge), int listappend.grain, .sl 2 (listappend.notches.map cNotch), .sl 2 (listappend.corners.map cSpot), .sl 1 (listappend.widths.map cI), boo listappend.match_])], 1⟩
def grade_Graded_S1 (listappend : Piece) (a : Int) (v10 : List Edge) (v53 : Int) : AS := ⟨[(2, .ptr 0 0 0), (9, .fn 34 [int a] []), (10, .own 1 0 v10.length), (51, .sl 2 (listappend.edges.map cEdge)), (52, int ((listappend.edges.length : Nat) : Int)), (53, int v53)], [(1, .row 2 (v10.map cEdge)), (0, .box [str listappend.name, .sl 2 (listappend.edges.map cEdge), int listappend.grain, .sl 2 (listappend.notches.map cNotch), .sl 2 (listappend.corners.map cSpot), .sl 1 (listappend.widths.map cI), boo listappend.match_])], 2⟩
abbrev grade_Graded_V (listappend : Piece) (a : Int) (r0 : List Edge) (r1 : Int) (I0 : Int → Prop) (M0 : Int → Nat) (I1 : (List Edge) → Int → Prop) (M1 : (List Edge) → Int → Nat) : Prop := ((a < (-100) → r0 = ([] : List Edge) ∧ r1 = 3) ∧ (¬ (a < (-100)) → ((a > 100 → r0 = ([] : List Edge) ∧ r1 = 3) ∧ (¬ (a > 100) → ((((listappend.corners.length : Nat) : Int) = ((listappend.edges.length : Nat) : Int) → I0 0) ∧ (¬ (((listappend.corners.length : Nat) : Int) = ((listappend.edges.length : Nat) : Int)) → r0 = ([] : List Edge) ∧ r1 = 1))))))
abbrev grade_Graded_V0 (listappend : Piece) (a : Int) (r0 : List Edge) (r1 : Int) (I0 : Int → Prop) (M0 : Int → Nat) (I1 : (List Edge) → Int → Prop) (M1 : (List Edge) → Int → Nat) (v34 : Int) : Prop := ((v34 < ((listappend.corners.length : Nat) : Int) → (Idx v34 listappend.corners.length) ∧ (∃ (shifted1 : Bool), Ret Tryd.prog XS 32 [.agg [int ((ai listappend.corners v34).x), int ((ai listappend.corners v34).y)]] (boo shifted1) ∧ ((shifted1 = true → (InR (v34 + 1)) ∧ I0 (v34 + 1) ∧ M0 (v34 + 1) < M0 v34) ∧ (shifted1 = false → r0 = ([] : List Edge) ∧ r1 = 3)))) ∧ (¬ (v34 < ((listappend.corners.length : Nat) : Int)) → (∃ (check1 : Int), Ret Tryd.prog XS 33 [.sl 2 (listappend.edges.map cEdge)] (int check1) ∧ ((check1 = 0 → I1 ([] : List Edge) 0) ∧ (¬ (check1 = 0) → r0 = ([] : List Edge) ∧ r1 = check1)))))
abbrev grade_Graded_V1 (listappend : Piece) (a : Int) (r0 : List Edge) (r1 : Int) (I0 : Int → Prop) (M0 : Int → Nat) (I1 : (List Edge) → Int → Prop) (M1 : (List Edge) → Int → Nat) (v10 : List Edge) (v53 : Int) : Prop := ((v53 < ((listappend.edges.length : Nat) : Int) → (Idx v53 listappend.edges.length) ∧ (Idx v53 listappend.corners.length) ∧ (∃ (move1 : Spot), Ret Tryd.prog XS 34 [int a, .agg [int ((ai listappend.corners v53).x), int ((ai listappend.corners v53).y)]] (.agg [int move1.x, int move1.y]) ∧ (InR (v53 + 1)) ∧ (((listappend.corners.length : Nat) : Int) ≠ 0) ∧ (Idx ((v53 + 1).tmod ((listappend.corners.length : Nat) : Int)) listappend.corners.length) ∧ (∃ (move2 : Spot), Ret Tryd.prog XS 34 [int a, .agg [int ((ai listappend.corners ((v53 + 1).tmod ((listappend.corners.length : Nat) : Int))).x), int ((ai listappend.corners ((v53 + 1).tmod ((listappend.corners.length : Nat) : Int))).y)]] (.agg [int move2.x, int move2.y]) ∧ (∃ (along3 : List Spot), Ret Tryd.prog XS 35 [.sl 2 (((ai listappend.edges v53).line).map cSpot), .agg [int move1.x, int move1.y], .agg [int move2.x, int move2.y]] (.fr 2 (along3.map cSpot)) ∧ (Cap 40 (v10 ++ ([(⟨(ai listappend.edges v53).name, along3⟩ : Edge)] : List Edge)).length) ∧ I1 (v10 ++ ([(⟨(ai listappend.edges v53).name, along3⟩ : Edge)] : List Edge)) (v53 + 1) ∧ M1 (v10 ++ ([(⟨(ai listappend.edges v53).name, along3⟩ : Edge)] : List Edge)) (v53 + 1) < M1 v10 v53)))) ∧ (¬ (v53 < ((listappend.edges.length : Nat) : Int)) → (∃ (check1_1 : Int), Ret Tryd.prog XS 33 [.sl 2 (v10.map cEdge)] (int check1_1) ∧ ((check1_1 = 0 → r0 = v10 ∧ r1 = 0) ∧ (¬ (check1_1 = 0) → r0 = ([] : List Edge) ∧ r1 = check1_1)))))
theorem grade_Graded_W1 (listappend : Piece) (a : Int) (r0 : List Edge) (r1 : Int) (I0 : Int → Prop) (M0 : Int → Nat) (I1 : (List Edge) → Int → Prop) (M1 : (List Edge) → Int → Nat) (h0 : ∀ (v34 : Int), I0 v34 → grade_Graded_V0 listappend a r0 r1 I0 M0 I1 M1 v34) (h1 : ∀ (v10 : List Edge) (v53 : Int), I1 v10 v53 → grade_Graded_V1 listappend a r0 r1 I0 M0 I1 M1 v10 v53) : ∀ (x : (List Edge) × Int), I1 x.1 x.2 → loopQ Tryd.prog XS Tryd.f20 1 (.tup [.fr 2 (r0.map cEdge), int r1]) [] (grade_Graded_S1 listappend a x.1 x.2) := by
  intro x0 hx0
  refine loop_rule (fun (x : (List Edge) × Int) => I1 x.1 x.2) (fun (x : (List Edge) × Int) => M1 x.1 x.2) (fun (x : (List Edge) × Int) => grade_Graded_S1 listappend a x.1 x.2) x0 hx0 ?_
  rintro ⟨v10, v53⟩ hx
  have h := h1 v10 v53 hx
  clear hx hx0 x0
  by_cases c1 : v53 < ((listappend.edges.length : Nat) : Int)
  · have h := h.1 c1
    obtain ⟨c2, c3, move1, c4, c5, c6, c7, move2, c8, along3, c9, c10, h⟩ := h
    have g_1 := (abt (dec_t c1))
    have g_2 := (oadd Tryd.prog 3 (wi64 c5))
    have g_3 := (olen cSpot Tryd.prog 29 2 listappend.corners (by kernel_rfl))
    exact sb (ts := [2, 9, 10, 51, 52, 53]) (ids := [7, 0]) (d := 0) (s0 := ⟨[(2, .ptr 0 0 0), (9, .fn 34 [int a] []), (10, .own 7 0 ((v10 ++ ([(⟨(ai listappend.edges v53).name, along3⟩ : Edge)] : List Edge)).length)), (51, .sl 2 (listappend.edges.map cEdge)), (52, int ((listappend.edges.length : Nat) : Int)), (53, int (v53 + 1))], [(7, .row 2 ((v10 ++ ([(⟨(ai listappend.edges v53).name, along3⟩ : Edge)] : List Edge)).map cEdge)), (0, .box [str listappend.name, .sl 2 (listappend.edges.map cEdge), int listappend.grain, .sl 2 (listappend.notches.map cNotch), .sl 2 (listappend.corners.map cSpot), .sl 1 (listappend.widths.map cI), boo listappend.match_])], 8⟩) (d11 g_1 (d11 (oidx cEdge c2) (d11 (oidx cSpot c3) (d11 (ocs c4) (d11 g_2 (d11 g_3 (d11 (orem Tryd.prog 3 .i64 (v53 + 1) ((listappend.corners.length : Nat) : Int) c6) (d11 (oidx cSpot c7) (d11 (ocs c8) (d11 (ocs c9) (d11 (ofz cSpot along3 (n := (along3.map cSpot).length) (List.length_map ..)) (d12 (oappo cEdge (n := v10.length) (m := ([(⟨(ai listappend.edges v53).name, along3⟩ : Edge)] : List Edge).length) rfl rfl c10) (d11 g_2 az))))))))))))) (by kernel_rfl) (by kernel_rfl) rfl ((v10 ++ ([(⟨(ai listappend.edges v53).name, along3⟩ : Edge)] : List Edge)), (v53 + 1)) h.1 h.2 (Weak.anew [(1, some 7), (0, some 0)] (by rfl) (wt_cons rfl (wk_ptr rfl) (wt_cons rfl (wk_fn (wl_cons wk_sc wl_nil) wl_nil) (wt_cons rfl (wk_own rfl rfl) (wt_cons rfl wk_sl (wt_cons rfl wk_sc (wt_cons rfl wk_sc wt_nil)))))) (wm_row rfl rfl (wm_box rfl rfl (wl_cons wk_sc (wl_cons wk_sl (wl_cons wk_sc (wl_cons wk_sl (wl_cons wk_sl (wl_cons wk_sl (wl_cons wk_sc wl_nil))))))) wm_nil)))
  · have h := h.2 c1
    obtain ⟨check1_1, c2, h⟩ := h
    have g_4 := (abf (dec_f c1))
    have e_5 := fun {o : Orc} {q : List Prop} (r : At o q) => (d11 g_4 (d12 (ocl [1] [(1, .row 2 (v10.map cEdge))] [.own 1 0 v10.length] (as_cons (at_row rfl rfl) as_nil) c2) r))
    by_cases c3 : check1_1 = 0
    · have h := h.1 c3
      have g_6 := (abf (bne_f c3))
      rw [h.1, h.2]
      exact sr (ids := [1]) (vs := [.own 1 0 v10.length, int 0]) (mem := [(1, .row 2 (v10.map cEdge))]) (e_5 (d11 g_6 az)) (by kernel_rfl) (by kernel_rfl) (rts_own rfl rfl rfl (rts_sc rfl))
    · have h := h.2 c3
      have g_7 := (abt (bne_t c3))
      rw [h.1, h.2]
      exact sr (ids := []) (vs := [.nil, int check1_1]) (mem := []) (e_5 (d11 g_7 az)) (by kernel_rfl) (by kernel_rfl) (rts_nilfr (rts_sc rfl))
theorem grade_Graded_W0 (listappend : Piece) (a : Int) (r0 : List Edge) (r1 : Int) (I0 : Int → Prop) (M0 : Int → Nat) (I1 : (List Edge) → Int → Prop) (M1 : (List Edge) → Int → Nat) (h0 : ∀ (v34 : Int), I0 v34 → grade_Graded_V0 listappend a r0 r1 I0 M0 I1 M1 v34) (h1 : ∀ (v10 : List Edge) (v53 : Int), I1 v10 v53 → grade_Graded_V1 listappend a r0 r1 I0 M0 I1 M1 v10 v53) : ∀ (x : Int), I0 x → loopQ Tryd.prog XS Tryd.f20 0 (.tup [.fr 2 (r0.map cEdge), int r1]) [] (grade_Graded_S0 listappend a x) := by
  intro x0 hx0
  refine loop_rule (fun (x : Int) => I0 x) (fun (x : Int) => M0 x) (fun (x : Int) => grade_Graded_S0 listappend a x) x0 hx0 ?_
  intro v34 hx
  have h := h0 v34 hx
  clear hx hx0 x0
  by_cases c1 : v34 < ((listappend.corners.length : Nat) : Int)
  · have h := h.1 c1
    obtain ⟨c2, shifted1, c3, h⟩ := h
    have g_8 := (abt (dec_t c1))
    have e_9 := fun {o : Orc} {q : List Prop} (r : At o q) => (d11 g_8 (d11 (oidx cSpot c2) (d11 (ocs c3) r)))
    rcases Bool.eq_false_or_eq_true shifted1 with c4 | c4
    · have h := h.1 c4
      obtain ⟨c5, h⟩ := h
      have g_10 := (oadd Tryd.prog 3 (wi64 c5))
      exact sb (ts := [1, 2, 32, 33, 34]) (ids := [0]) (d := 0) (s0 := ⟨[(1, int a), (2, .ptr 0 0 0), (32, .sl 2 (listappend.corners.map cSpot)), (33, int ((listappend.corners.length : Nat) : Int)), (34, int (v34 + 1))], [(0, .box [str listappend.name, .sl 2 (listappend.edges.map cEdge), int listappend.grain, .sl 2 (listappend.notches.map cNotch), .sl 2 (listappend.corners.map cSpot), .sl 1 (listappend.widths.map cI), boo listappend.match_])], 2⟩) (e_9 (d11 (abf (not_f c4)) (d11 g_10 az))) (by kernel_rfl) (by kernel_rfl) rfl (v34 + 1) h.1 h.2 (Weak.anew [(0, some 0)] (by rfl) (wt_cons rfl wk_sc (wt_cons rfl (wk_ptr rfl) (wt_cons rfl wk_sl (wt_cons rfl wk_sc (wt_cons rfl wk_sc wt_nil))))) (wm_box rfl rfl (wl_cons wk_sc (wl_cons wk_sl (wl_cons wk_sc (wl_cons wk_sl (wl_cons wk_sl (wl_cons wk_sl (wl_cons wk_sc wl_nil))))))) wm_nil))
    · have h := h.2 c4
      rw [h.1, h.2]
      exact sr (ids := []) (vs := [.nil, int 3]) (mem := []) (e_9 (d11 (abt (not_t c4)) az)) (by kernel_rfl) (by kernel_rfl) (rts_nilfr (rts_sc rfl))
  · have h := h.2 c1
    obtain ⟨check1, c2, h⟩ := h
    have g_11 := (abf (dec_f c1))
    have e_12 := fun {o : Orc} {q : List Prop} (r : At o q) => (d11 g_11 (d11 (ocs c2) r))
    by_cases c3 : check1 = 0
    · have h := h.1 c3
      have g_13 := (abf (bne_f c3))
      have g_14 := (olen cEdge Tryd.prog 56 2 listappend.edges (by kernel_rfl))
      exact sl (ts := [2, 9, 10, 51, 52, 53]) (ids := [0]) (d := 1) (s0 := ⟨[(2, .ptr 0 0 0), (9, .fn 34 [int a] []), (10, .nil), (51, .sl 2 (listappend.edges.map cEdge)), (52, int ((listappend.edges.length : Nat) : Int)), (53, int 0)], [(0, .box [str listappend.name, .sl 2 (listappend.edges.map cEdge), int listappend.grain, .sl 2 (listappend.notches.map cNotch), .sl 2 (listappend.corners.map cSpot), .sl 1 (listappend.widths.map cI), boo listappend.match_])], 1⟩) (e_12 (d11 g_13 (d11 g_14 az))) (by kernel_rfl) (by kernel_rfl) (Weak.anew [(1, none), (0, some 0)] (by rfl) (wt_cons rfl (wk_ptr rfl) (wt_cons rfl (wk_fn (wl_cons wk_sc wl_nil) wl_nil) (wt_cons rfl (wk_nilown rfl) (wt_cons rfl wk_sl (wt_cons rfl wk_sc (wt_cons rfl wk_sc wt_nil)))))) (wm_none rfl (wm_box rfl rfl (wl_cons wk_sc (wl_cons wk_sl (wl_cons wk_sc (wl_cons wk_sl (wl_cons wk_sl (wl_cons wk_sl (wl_cons wk_sc wl_nil))))))) wm_nil))) (grade_Graded_W1 listappend a r0 r1 I0 M0 I1 M1 h0 h1 (([] : List Edge), 0) h)
    · have h := h.2 c3
      have g_15 := (abt (bne_t c3))
      rw [h.1, h.2]
      exact sr (ids := []) (vs := [.nil, int check1]) (mem := []) (e_12 (d11 g_15 az)) (by kernel_rfl) (by kernel_rfl) (rts_nilfr (rts_sc rfl))
theorem grade_Graded_W (listappend : Piece) (a : Int) (r0 : List Edge) (r1 : Int) (I0 : Int → Prop) (M0 : Int → Nat) (I1 : (List Edge) → Int → Prop) (M1 : (List Edge) → Int → Nat) (h : grade_Graded_V listappend a r0 r1 I0 M0 I1 M1) (h0 : ∀ (v34 : Int), I0 v34 → grade_Graded_V0 listappend a r0 r1 I0 M0 I1 M1 v34) (h1 : ∀ (v10 : List Edge) (v53 : Int), I1 v10 v53 → grade_Graded_V1 listappend a r0 r1 I0 M0 I1 M1 v10 v53) : Ret Tryd.prog XS 20 [.agg [str listappend.name, .sl 2 (listappend.edges.map cEdge), int listappend.grain, .sl 2 (listappend.notches.map cNotch), .sl 2 (listappend.corners.map cSpot), .sl 1 (listappend.widths.map cI), boo listappend.match_], int a] (.tup [.fr 2 (r0.map cEdge), int r1]) := by
  refine fn_rule Tryd.func20 (by kernel_rfl) (by kernel_rfl) (by kernel_rfl) (by kernel_rfl) ?_
  by_cases c1 : a < (-100)
  · have h := h.1 c1
    have g_16 := (abt (dec_t c1))
    rw [h.1, h.2]
    exact sr (ids := []) (vs := [.nil, int 3]) (mem := []) (d11 g_16 (d11 g_16 (d11 g_16 (d11 abtt az)))) (by kernel_rfl) (by kernel_rfl) (rts_nilfr (rts_sc rfl))
  · have h := h.2 c1
    have g_17 := (abf (dec_f c1))
    have e_18 := fun {o : Orc} {q : List Prop} (r : At o q) => (d11 g_17 (d11 g_17 (d11 g_17 r)))
    by_cases c2 : a > 100
    · have h := h.1 c2
      rw [h.1, h.2]
      exact sr (ids := []) (vs := [.nil, int 3]) (mem := []) (e_18 (d11 (abt (dec_t c2)) az)) (by kernel_rfl) (by kernel_rfl) (rts_nilfr (rts_sc rfl))
    · have h := h.2 c2
      have g_19 := (olen cSpot Tryd.prog 29 2 listappend.corners (by kernel_rfl))
      have g_20 := (olen cEdge Tryd.prog 56 2 listappend.edges (by kernel_rfl))
      have e_21 := fun {o : Orc} {q : List Prop} (r : At o q) => (d11 (abf (dec_f c2)) (d11 g_19 (d11 g_20 r)))
      by_cases c3 : ((listappend.corners.length : Nat) : Int) = ((listappend.edges.length : Nat) : Int)
      · have h := h.1 c3
        have g_22 := (abf (bne_f c3))
        exact sl (ts := [1, 2, 32, 33, 34]) (ids := [0]) (d := 0) (s0 := ⟨[(1, int a), (2, .ptr 0 0 0), (32, .sl 2 (listappend.corners.map cSpot)), (33, int ((listappend.corners.length : Nat) : Int)), (34, int 0)], [(0, .box [str listappend.name, .sl 2 (listappend.edges.map cEdge), int listappend.grain, .sl 2 (listappend.notches.map cNotch), .sl 2 (listappend.corners.map cSpot), .sl 1 (listappend.widths.map cI), boo listappend.match_])], 1⟩) (e_18 (e_21 (d11 g_22 (d11 g_19 az)))) (by kernel_rfl) (by kernel_rfl) (Weak.anew [(0, some 0)] (by rfl) (wt_cons rfl wk_sc (wt_cons rfl (wk_ptr rfl) (wt_cons rfl wk_sl (wt_cons rfl wk_sc (wt_cons rfl wk_sc wt_nil))))) (wm_box rfl rfl (wl_cons wk_sc (wl_cons wk_sl (wl_cons wk_sc (wl_cons wk_sl (wl_cons wk_sl (wl_cons wk_sl (wl_cons wk_sc wl_nil))))))) wm_nil)) (grade_Graded_W0 listappend a r0 r1 I0 M0 I1 M1 h0 h1 0 h)
      · have h := h.2 c3
        have g_23 := (abt (bne_t c3))
        rw [h.1, h.2]
        exact sr (ids := []) (vs := [.nil, int 1]) (mem := []) (e_18 (e_21 (d11 g_23 az))) (by kernel_rfl) (by kernel_rfl) (rts_nilfr (rts_sc rfl))

-- grade.shifted
abbrev grade_shifted_V (s0 : Spot) (r0 : Bool) : Prop := ((s0.x ≥ (-1000) → ((s0.x ≤ 1000 → ((s0.y ≥ (-1000) → r0 = (decide (s0.y ≤ 1000))) ∧ (¬ (s0.y ≥ (-1000)) → r0 = false))) ∧ (¬ (s0.x ≤ 1000) → r0 = false))) ∧ (¬ (s0.x ≥ (-1000)) → r0 = false))
theorem grade_shifted_W (s0 : Spot) (r0 : Bool) (h : grade_shifted_V s0 r0) : Ret Tryd.prog XS 32 [.agg [int s0.x, int s0.y]] (boo r0) := by
  refine fn_rule Tryd.func32 (by kernel_rfl) (by kernel_rfl) (by kernel_rfl) (by kernel_rfl) ?_
  by_cases c1 : s0.x ≥ (-1000)
  · have h := h.1 c1
    have g_1 := (abt (dec_t c1))
    have e_2 := fun {o : Orc} {q : List Prop} (r : At o q) => (d11 g_1 (d11 g_1 (d11 g_1 (d11 g_1 r))))
    by_cases c2 : s0.x ≤ 1000
    · have h := h.1 c2
      have g_3 := (abt (dec_t c2))
      have e_4 := fun {o : Orc} {q : List Prop} (r : At o q) => (d11 g_3 (d11 g_3 (d11 g_3 (d11 g_3 r))))
      by_cases c3 : s0.y ≥ (-1000)
      · have h := h.1 c3
        have g_5 := (abt (dec_t c3))
        rw [h]
        exact sr (ids := []) (vs := [boo (decide (s0.y ≤ 1000))]) (mem := []) (e_2 (e_4 (d11 g_5 (d11 g_5 (d11 g_5 (d11 g_5 az)))))) (by kernel_rfl) (by kernel_rfl) (rts_sc rfl)
      · have h := h.2 c3
        have g_6 := (abf (dec_f c3))
        rw [h]
        exact sr (ids := []) (vs := [boo false]) (mem := []) (e_2 (e_4 (d11 g_6 (d11 g_6 (d11 g_6 (d11 g_6 az)))))) (by kernel_rfl) (by kernel_rfl) (rts_sc rfl)
    · have h := h.2 c2
      have g_7 := (abf (dec_f c2))
      rw [h]
      exact sr (ids := []) (vs := [boo false]) (mem := []) (e_2 (d11 g_7 (d11 g_7 (d11 g_7 (d11 g_7 (d11 abff (d11 abff (d11 abff (d11 abff az))))))))) (by kernel_rfl) (by kernel_rfl) (rts_sc rfl)
  · have h := h.2 c1
    have g_8 := (abf (dec_f c1))
    rw [h]
    exact sr (ids := []) (vs := [boo false]) (mem := []) (d11 g_8 (d11 g_8 (d11 g_8 (d11 g_8 (d11 abff (d11 abff (d11 abff (d11 abff (d11 abff (d11 abff (d11 abff (d11 abff az)))))))))))) (by kernel_rfl) (by kernel_rfl) (rts_sc rfl)

end Go.Ab
end

section
namespace Go.Ab
open Go.Proofs
set_option maxRecDepth 1000000
set_option linter.unusedVariables false
attribute [local irreducible] todoQ
-- outline.Check
def outline_Check_S0 (l : List Edge) (end4 : List Spot) (v27 : Int) : AS := ⟨[(0, .sl 2 (l.map cEdge)), (4, .sl 2 (end4.map cSpot)), (25, .sl 2 (l.map cEdge)), (26, int ((l.length : Nat) : Int)), (27, int v27)], [], 0⟩
abbrev outline_Check_V (l : List Edge) (r0 : Int) (I0 : (List Spot) → Int → Prop) (M0 : (List Spot) → Int → Nat) : Prop := ((((l.length : Nat) : Int) > 16 → r0 = 5) ∧ (¬ (((l.length : Nat) : Int) > 16) → ((((l.length : Nat) : Int) < 2 → r0 = 11) ∧ (¬ (((l.length : Nat) : Int) < 2) → (∃ (edges1 : Int), Ret Tryd.prog XS 41 [.sl 2 (l.map cEdge)] (int edges1) ∧ ((edges1 = 0 → (InR (((l.length : Nat) : Int) - 1)) ∧ (Idx (((l.length : Nat) : Int) - 1) l.length) ∧ I0 ((ai l (((l.length : Nat) : Int) - 1)).line) 0) ∧ (¬ (edges1 = 0) → r0 = edges1)))))))
abbrev outline_Check_V0 (l : List Edge) (r0 : Int) (I0 : (List Spot) → Int → Prop) (M0 : (List Spot) → Int → Nat) (end4 : List Spot) (v27 : Int) : Prop := ((v27 < ((l.length : Nat) : Int) → (Idx v27 l.length) ∧ (InR (((end4.length : Nat) : Int) - 1)) ∧ (Idx (((end4.length : Nat) : Int) - 1) end4.length) ∧ (Idx 0 ((ai l v27).line).length) ∧ (((ai end4 (((end4.length : Nat) : Int) - 1)) = (ai ((ai l v27).line) 0) → (InR (v27 + 1)) ∧ I0 ((ai l v27).line) (v27 + 1) ∧ M0 ((ai l v27).line) (v27 + 1) < M0 end4 v27) ∧ (¬ ((ai end4 (((end4.length : Nat) : Int) - 1)) = (ai ((ai l v27).line) 0)) → r0 = 11))) ∧ (¬ (v27 < ((l.length : Nat) : Int)) → (∃ (vertices1 : List Spot), Ret Tryd.prog XS 43 [.sl 2 (l.map cEdge)] (.fr 2 (vertices1.map cSpot)) ∧ (∃ (check2 : Int), Ret Tryd.prog XS 42 [.sl 2 (vertices1.map cSpot)] (int check2) ∧ r0 = check2))))
theorem outline_Check_W0 (l : List Edge) (r0 : Int) (I0 : (List Spot) → Int → Prop) (M0 : (List Spot) → Int → Nat) (h0 : ∀ (end4 : List Spot) (v27 : Int), I0 end4 v27 → outline_Check_V0 l r0 I0 M0 end4 v27) : ∀ (x : (List Spot) × Int), I0 x.1 x.2 → loopQ Tryd.prog XS Tryd.f33 0 (int r0) [] (outline_Check_S0 l x.1 x.2) := by
  intro x0 hx0
  refine loop_rule (fun (x : (List Spot) × Int) => I0 x.1 x.2) (fun (x : (List Spot) × Int) => M0 x.1 x.2) (fun (x : (List Spot) × Int) => outline_Check_S0 l x.1 x.2) x0 hx0 ?_
  rintro ⟨end4, v27⟩ hx
  have h := h0 end4 v27 hx
  clear hx hx0 x0
  by_cases c1 : v27 < ((l.length : Nat) : Int)
  · have h := h.1 c1
    obtain ⟨c2, c3, c4, c5, h⟩ := h
    have g_1 := (abt (dec_t c1))
    have e_2 := fun {o : Orc} {q : List Prop} (r : At o q) => (d11 g_1 (d11 (oidx cEdge c2) (d11 (olen cSpot Tryd.prog 29 2 end4 (by kernel_rfl)) (d11 (osub Tryd.prog 3 (wi64 c3)) (d11 (oidx cSpot c4) (d11 (oidx cSpot c5) r))))))
    by_cases c6 : (ai end4 (((end4.length : Nat) : Int) - 1)) = (ai ((ai l v27).line) 0)
    · have h := h.1 c6
      obtain ⟨c7, h⟩ := h
      exact sb (ts := [0, 4, 25, 26, 27]) (ids := []) (d := 0) (s0 := ⟨[(0, .sl 2 (l.map cEdge)), (4, .sl 2 (((ai l v27).line).map cSpot)), (25, .sl 2 (l.map cEdge)), (26, int ((l.length : Nat) : Int)), (27, int (v27 + 1))], [], 1⟩) (e_2 (d11 (abf (not_f (sSpot_t c6))) (d11 (oadd Tryd.prog 3 (wi64 c7)) az))) (by kernel_rfl) (by kernel_rfl) rfl ((ai l v27).line, (v27 + 1)) h.1 h.2 (Weak.anew [] (by rfl) (wt_cons rfl wk_sl (wt_cons rfl wk_sl (wt_cons rfl wk_sl (wt_cons rfl wk_sc (wt_cons rfl wk_sc wt_nil))))) wm_nil)
    · have h := h.2 c6
      rw [h]
      exact sr (ids := []) (vs := [int 11]) (mem := []) (e_2 (d11 (abt (not_t (sSpot_f c6))) az)) (by kernel_rfl) (by kernel_rfl) (rts_sc rfl)
  · have h := h.2 c1
    obtain ⟨vertices1, c2, check2, c3, h⟩ := h
    have g_3 := (abf (dec_f c1))
    rw [h]
    exact sr (ids := []) (vs := [int check2]) (mem := []) (d11 g_3 (d11 (ocs c2) (d12 (ocl [0] [(0, .row 2 (vertices1.map cSpot))] [.own 0 0 ((vertices1.map cSpot).length)] (as_cons (at_row (List.length_map ..) rfl) as_nil) c3) az))) (by kernel_rfl) (by kernel_rfl) (rts_sc rfl)
theorem outline_Check_W (l : List Edge) (r0 : Int) (I0 : (List Spot) → Int → Prop) (M0 : (List Spot) → Int → Nat) (h : outline_Check_V l r0 I0 M0) (h0 : ∀ (end4 : List Spot) (v27 : Int), I0 end4 v27 → outline_Check_V0 l r0 I0 M0 end4 v27) : Ret Tryd.prog XS 33 [.sl 2 (l.map cEdge)] (int r0) := by
  refine fn_rule Tryd.func33 (by kernel_rfl) (by kernel_rfl) (by kernel_rfl) (by kernel_rfl) ?_
  have g_4 := (olen cEdge Tryd.prog 56 2 l (by kernel_rfl))
  by_cases c1 : ((l.length : Nat) : Int) > 16
  · have h := h.1 c1
    have g_5 := (abt (dec_t c1))
    rw [h]
    exact sr (ids := []) (vs := [int 5]) (mem := []) (d11 g_4 (d11 g_5 az)) (by kernel_rfl) (by kernel_rfl) (rts_sc rfl)
  · have h := h.2 c1
    have g_6 := (abf (dec_f c1))
    have e_7 := fun {o : Orc} {q : List Prop} (r : At o q) => (d11 g_6 (d11 g_4 r))
    by_cases c2 : ((l.length : Nat) : Int) < 2
    · have h := h.1 c2
      rw [h]
      exact sr (ids := []) (vs := [int 11]) (mem := []) (d11 g_4 (e_7 (d11 (abt (dec_t c2)) az))) (by kernel_rfl) (by kernel_rfl) (rts_sc rfl)
    · have h := h.2 c2
      obtain ⟨edges1, c3, h⟩ := h
      have e_8 := fun {o : Orc} {q : List Prop} (r : At o q) => (d11 (abf (dec_f c2)) (d11 (ocs c3) r))
      by_cases c4 : edges1 = 0
      · have h := h.1 c4
        obtain ⟨c5, c6, h⟩ := h
        exact sl (ts := [0, 4, 25, 26, 27]) (ids := []) (d := 0) (s0 := ⟨[(0, .sl 2 (l.map cEdge)), (4, .sl 2 (((ai l (((l.length : Nat) : Int) - 1)).line).map cSpot)), (25, .sl 2 (l.map cEdge)), (26, int ((l.length : Nat) : Int)), (27, int 0)], [], 0⟩) (d11 g_4 (e_7 (e_8 (d11 (abf (bne_f c4)) (d11 g_4 (d11 (osub Tryd.prog 3 (wi64 c5)) (d11 (oidx cEdge c6) (d11 g_4 az)))))))) (by kernel_rfl) (by kernel_rfl) (Weak.anew [] (by rfl) (wt_cons rfl wk_sl (wt_cons rfl wk_sl (wt_cons rfl wk_sl (wt_cons rfl wk_sc (wt_cons rfl wk_sc wt_nil))))) wm_nil) (outline_Check_W0 l r0 I0 M0 h0 ((ai l (((l.length : Nat) : Int) - 1)).line, 0) h)
      · have h := h.2 c4
        rw [h]
        exact sr (ids := []) (vs := [int edges1]) (mem := []) (d11 g_4 (e_7 (e_8 (d11 (abt (bne_t c4)) az)))) (by kernel_rfl) (by kernel_rfl) (rts_sc rfl)

-- outline.edges
def outline_edges_S0 (l : List Edge) (v8 : Int) : AS := ⟨[(0, .sl 2 (l.map cEdge)), (6, .sl 2 (l.map cEdge)), (7, int ((l.length : Nat) : Int)), (8, int v8)], [], 0⟩
abbrev outline_edges_V (l : List Edge) (r0 : Int) (I0 : Int → Prop) (M0 : Int → Nat) : Prop := I0 0
abbrev outline_edges_V0 (l : List Edge) (r0 : Int) (I0 : Int → Prop) (M0 : Int → Nat) (v8 : Int) : Prop := ((v8 < ((l.length : Nat) : Int) → (Idx v8 l.length) ∧ (∃ (named1 : Bool), Ret Tryd.prog XS 48 [str ((ai l v8).name)] (boo named1) ∧ ((named1 = true → (Slc 0 v8 l.length) ∧ (∃ (edge2 : Bool), Ret Tryd.prog XS 49 [.sl 2 ((cut l 0 v8).map cEdge), .fn 50 [] [.ref [str ((ai l v8).name), .sl 2 (((ai l v8).line).map cSpot)]]] (boo edge2) ∧ ((edge2 = true → r0 = 7) ∧ (edge2 = false → (∃ (check3 : Int), Ret Tryd.prog XS 36 [.sl 2 (((ai l v8).line).map cSpot)] (int check3) ∧ ((check3 = 0 → (InR (v8 + 1)) ∧ I0 (v8 + 1) ∧ M0 (v8 + 1) < M0 v8) ∧ (¬ (check3 = 0) → r0 = check3))))))) ∧ (named1 = false → r0 = 1)))) ∧ (¬ (v8 < ((l.length : Nat) : Int)) → r0 = 0))
theorem outline_edges_W0 (l : List Edge) (r0 : Int) (I0 : Int → Prop) (M0 : Int → Nat) (h0 : ∀ (v8 : Int), I0 v8 → outline_edges_V0 l r0 I0 M0 v8) : ∀ (x : Int), I0 x → loopQ Tryd.prog XS Tryd.f41 0 (int r0) [] (outline_edges_S0 l x) := by
  intro x0 hx0
  refine loop_rule (fun (x : Int) => I0 x) (fun (x : Int) => M0 x) (fun (x : Int) => outline_edges_S0 l x) x0 hx0 ?_
  intro v8 hx
  have h := h0 v8 hx
  clear hx hx0 x0
  by_cases c1 : v8 < ((l.length : Nat) : Int)
  · have h := h.1 c1
    obtain ⟨c2, named1, c3, h⟩ := h
    have e_1 := fun {o : Orc} {q : List Prop} (r : At o q) => (d11 (abt (dec_t c1)) (d11 (oidx cEdge c2) (d11 (ocs c3) r)))
    rcases Bool.eq_false_or_eq_true named1 with c4 | c4
    · have h := h.1 c4
      obtain ⟨c5, edge2, c6, h⟩ := h
      have e_2 := fun {o : Orc} {q : List Prop} (r : At o q) => (d11 (abf (not_f c4)) (d11 (ocut0 cEdge 2 c5) (d12 (ocl [0] [(0, .box [str ((ai l v8).name), .sl 2 (((ai l v8).line).map cSpot)])] [.sl 2 ((cut l 0 v8).map cEdge), .fn 50 [] [.ptr 0 0 0]] (as_cons (ArgTo.same rfl) (as_cons (at_fn as_nil (as_cons (at_ptr rfl (as_cons (ArgTo.same rfl) (as_cons (ArgTo.same rfl) as_nil))) as_nil)) as_nil)) c6) r)))
      rcases Bool.eq_false_or_eq_true edge2 with c7 | c7
      · have h := h.1 c7
        rw [h]
        exact sr (ids := []) (vs := [int 7]) (mem := []) (e_1 (e_2 (d11 (abt c7) az))) (by kernel_rfl) (by kernel_rfl) (rts_sc rfl)
      · have h := h.2 c7
        obtain ⟨check3, c8, h⟩ := h
        have e_3 := fun {o : Orc} {q : List Prop} (r : At o q) => (d11 (abf c7) (d11 (ocs c8) r))
        by_cases c9 : check3 = 0
        · have h := h.1 c9
          obtain ⟨c10, h⟩ := h
          exact sb (ts := [0, 6, 7, 8]) (ids := []) (d := 0) (s0 := ⟨[(0, .sl 2 (l.map cEdge)), (6, .sl 2 (l.map cEdge)), (7, int ((l.length : Nat) : Int)), (8, int (v8 + 1))], [], 1⟩) (e_1 (e_2 (e_3 (d11 (abf (bne_f c9)) (d11 (oadd Tryd.prog 3 (wi64 c10)) az))))) (by kernel_rfl) (by kernel_rfl) rfl (v8 + 1) h.1 h.2 (Weak.anew [] (by rfl) (wt_cons rfl wk_sl (wt_cons rfl wk_sl (wt_cons rfl wk_sc (wt_cons rfl wk_sc wt_nil)))) wm_nil)
        · have h := h.2 c9
          rw [h]
          exact sr (ids := []) (vs := [int check3]) (mem := []) (e_1 (e_2 (e_3 (d11 (abt (bne_t c9)) az)))) (by kernel_rfl) (by kernel_rfl) (rts_sc rfl)
    · have h := h.2 c4
      rw [h]
      exact sr (ids := []) (vs := [int 1]) (mem := []) (e_1 (d11 (abt (not_t c4)) az)) (by kernel_rfl) (by kernel_rfl) (rts_sc rfl)
  · have h := h.2 c1
    rw [h]
    exact sr (ids := []) (vs := [int 0]) (mem := []) (d11 (abf (dec_f c1)) az) (by kernel_rfl) (by kernel_rfl) (rts_sc rfl)
theorem outline_edges_W (l : List Edge) (r0 : Int) (I0 : Int → Prop) (M0 : Int → Nat) (h : outline_edges_V l r0 I0 M0) (h0 : ∀ (v8 : Int), I0 v8 → outline_edges_V0 l r0 I0 M0 v8) : Ret Tryd.prog XS 41 [.sl 2 (l.map cEdge)] (int r0) := by
  refine fn_rule Tryd.func41 (by kernel_rfl) (by kernel_rfl) (by kernel_rfl) (by kernel_rfl) ?_
  exact sl (ts := [0, 6, 7, 8]) (ids := []) (d := 0) (s0 := ⟨[(0, .sl 2 (l.map cEdge)), (6, .sl 2 (l.map cEdge)), (7, int ((l.length : Nat) : Int)), (8, int 0)], [], 0⟩) (d11 (olen cEdge Tryd.prog 56 2 l (by kernel_rfl)) az) (by kernel_rfl) (by kernel_rfl) (Weak.anew [] (by rfl) (wt_cons rfl wk_sl (wt_cons rfl wk_sl (wt_cons rfl wk_sc (wt_cons rfl wk_sc wt_nil)))) wm_nil) (outline_edges_W0 l r0 I0 M0 h0 0 h)

-- outline.named
abbrev outline_named_V (s0 : ByteArray) (r0 : Bool) : Prop := (∃ (check1 : Int), Ret Tryd.prog XS 54 [.agg [int 2, boo false, .sl 1 (([] : List Int).map cU32), .sl 1 (([] : List Int).map cU32), str s0, .nil]] (int check1) ∧ r0 = (check1 == 0))
theorem outline_named_W (s0 : ByteArray) (r0 : Bool) (h : outline_named_V s0 r0) : Ret Tryd.prog XS 48 [str s0] (boo r0) := by
  refine fn_rule Tryd.func48 (by kernel_rfl) (by kernel_rfl) (by kernel_rfl) (by kernel_rfl) ?_
  obtain ⟨check1, c1, h⟩ := h
  rw [h]
  exact sr (ids := []) (vs := [boo (check1 == 0)]) (mem := []) (d12 (ocl [] [] [.agg [int 2, boo false, .nil, .nil, str s0, .nil]] (as_cons (at_agg (as_cons (ArgTo.same rfl) (as_cons (ArgTo.same rfl) (as_cons (ArgTo.nil _) (as_cons (ArgTo.nil _) (as_cons (ArgTo.same rfl) (as_cons (ArgTo.same rfl) as_nil))))))) as_nil) c1) az) (by kernel_rfl) (by kernel_rfl) (rts_sc rfl)

-- formula.Check
abbrev formula_Check_V (s : ByteArray) (r0 : Int) : Prop := (∃ (check1 : Int), Ret Tryd.prog XS 60 [.agg [int 2, boo false, .sl 1 (([] : List Int).map cU32), .sl 1 (([] : List Int).map cU32), str s, .nil], int 1] (int check1) ∧ r0 = check1)
theorem formula_Check_W (s : ByteArray) (r0 : Int) (h : formula_Check_V s r0) : Ret Tryd.prog XS 54 [.agg [int 2, boo false, .sl 1 (([] : List Int).map cU32), .sl 1 (([] : List Int).map cU32), str s, .nil]] (int r0) := by
  refine fn_rule Tryd.func54 (by kernel_rfl) (by kernel_rfl) (by kernel_rfl) (by kernel_rfl) ?_
  obtain ⟨check1, c1, h⟩ := h
  rw [h]
  exact sr (ids := []) (vs := [int check1]) (mem := []) (d11 (ocs c1) az) (by kernel_rfl) (by kernel_rfl) (rts_sc rfl)

-- formula.check
def formula_check_S0 (s : ByteArray) (v16 : Int) : AS := ⟨[(1, int 1), (14, .nil), (15, int 0), (16, int v16)], [], 0⟩
abbrev formula_check_V (s : ByteArray) (r0 : Int) (I0 : Int → Prop) (M0 : Int → Nat) : Prop := (∃ (right1 : Bool), Ret Tryd.prog XS 64 [.agg [int 2, boo false, .sl 1 (([] : List Int).map cU32), .sl 1 (([] : List Int).map cU32), str s, .nil]] (boo right1) ∧ ((right1 = true → I0 0) ∧ (right1 = false → r0 = 1)))
abbrev formula_check_V0 (s : ByteArray) (r0 : Int) (I0 : Int → Prop) (M0 : Int → Nat) (v16 : Int) : Prop := ((v16 < 0 → False) ∧ (¬ (v16 < 0) → r0 = 0))
theorem formula_check_W0 (s : ByteArray) (r0 : Int) (I0 : Int → Prop) (M0 : Int → Nat) (h0 : ∀ (v16 : Int), I0 v16 → formula_check_V0 s r0 I0 M0 v16) : ∀ (x : Int), I0 x → loopQ Tryd.prog XS Tryd.f60 0 (int r0) [] (formula_check_S0 s x) := by
  intro x0 hx0
  refine loop_rule (fun (x : Int) => I0 x) (fun (x : Int) => M0 x) (fun (x : Int) => formula_check_S0 s x) x0 hx0 ?_
  intro v16 hx
  have h := h0 v16 hx
  clear hx hx0 x0
  by_cases c1 : v16 < 0
  · have h := h.1 c1
    exact h.elim
  · have h := h.2 c1
    rw [h]
    exact sr (ids := []) (vs := [int 0]) (mem := []) (d11 (abf (dec_f c1)) az) (by kernel_rfl) (by kernel_rfl) (rts_sc rfl)
theorem formula_check_W (s : ByteArray) (r0 : Int) (I0 : Int → Prop) (M0 : Int → Nat) (h : formula_check_V s r0 I0 M0) (h0 : ∀ (v16 : Int), I0 v16 → formula_check_V0 s r0 I0 M0 v16) : Ret Tryd.prog XS 60 [.agg [int 2, boo false, .sl 1 (([] : List Int).map cU32), .sl 1 (([] : List Int).map cU32), str s, .nil], int 1] (int r0) := by
  refine fn_rule Tryd.func60 (by kernel_rfl) (by kernel_rfl) (by kernel_rfl) (by kernel_rfl) ?_
  obtain ⟨right1, c1, h⟩ := h
  have e_1 := fun {o : Orc} {q : List Prop} (r : At o q) => (d11 abff (d11 (ocs c1) r))
  rcases Bool.eq_false_or_eq_true right1 with c2 | c2
  · have h := h.1 c2
    exact sl (ts := [1, 14, 15, 16]) (ids := []) (d := 0) (s0 := ⟨[(1, int 1), (14, .nil), (15, int 0), (16, int 0)], [], 1⟩) (e_1 (d11 (abf (not_f c2)) az)) (by kernel_rfl) (by kernel_rfl) (Weak.anew [] (by rfl) (wt_cons rfl wk_sc (wt_cons rfl wk_nil (wt_cons rfl wk_sc (wt_cons rfl wk_sc wt_nil)))) wm_nil) (formula_check_W0 s r0 I0 M0 h0 0 h)
  · have h := h.2 c2
    rw [h]
    exact sr (ids := []) (vs := [int 1]) (mem := []) (e_1 (d11 (abt (not_t c2)) az)) (by kernel_rfl) (by kernel_rfl) (rts_sc rfl)

-- formula.right
abbrev formula_right_V (s : ByteArray) (r0 : Bool) : Prop := (Ret Tryd.prog XS 65 [.agg [boo false, .sl 1 (([] : List Int).map cU32), .sl 1 (([] : List Int).map cU32)]] (boo true) ∧ (∃ (name1 : Bool), Ret Tryd.prog XS 66 [str s] (boo name1) ∧ ((name1 = true → r0 = true) ∧ (name1 = false → r0 = false))))
theorem formula_right_W (s : ByteArray) (r0 : Bool) (h : formula_right_V s r0) : Ret Tryd.prog XS 64 [.agg [int 2, boo false, .sl 1 (([] : List Int).map cU32), .sl 1 (([] : List Int).map cU32), str s, .nil]] (boo r0) := by
  refine fn_rule Tryd.func64 (by kernel_rfl) (by kernel_rfl) (by kernel_rfl) (by kernel_rfl) ?_
  obtain ⟨c1, name1, c2, h⟩ := h
  have e_1 := fun {o : Orc} {q : List Prop} (r : At o q) => (d11 abff (d11 abtt (d11 abff (d11 abff (d11 abff (d11 abff (d11 abff (d11 abff (d11 abff (d11 (ocs c1) (d11 abtt (d11 (ocs c2) (d11 abff r)))))))))))))
  rcases Bool.eq_false_or_eq_true name1 with c3 | c3
  · have h := h.1 c3
    rw [h]
    exact sr (ids := []) (vs := [boo true]) (mem := []) (e_1 (d11 (abt c3) (d11 (abt c3) az))) (by kernel_rfl) (by kernel_rfl) (rts_sc rfl)
  · have h := h.2 c3
    rw [h]
    exact sr (ids := []) (vs := [boo false]) (mem := []) (e_1 (d11 (abf c3) (d11 (abf c3) az))) (by kernel_rfl) (by kernel_rfl) (rts_sc rfl)

-- formula.name
abbrev formula_name_V (s0 : ByteArray) (r0 : Bool) : Prop := ((s0 = ({ data := #[] } : ByteArray) → r0 = false) ∧ (¬ (s0 = ({ data := #[] } : ByteArray)) → ((((s0.size : Nat) : Int) > 24 → r0 = false) ∧ (¬ (((s0.size : Nat) : Int) > 24) → ((s0 = ({ data := #[109, 105, 110] } : ByteArray) → r0 = false) ∧ (¬ (s0 = ({ data := #[109, 105, 110] } : ByteArray)) → ((s0 = ({ data := #[109, 97, 120] } : ByteArray) → r0 = false) ∧ (¬ (s0 = ({ data := #[109, 97, 120] } : ByteArray)) → (Idx 0 s0.size) ∧ (((bt s0 0) < 97 → r0 = false) ∧ (¬ ((bt s0 0) < 97) → (((bt s0 0) > 122 → r0 = false) ∧ (¬ ((bt s0 0) > 122) → (∃ (trim1 : ByteArray), Ret Tryd.prog XS 69 [str s0, str ({ data := #[97, 98, 99, 100, 101, 102, 103, 104, 105, 106, 107, 108, 109, 110, 111, 112, 113, 114, 115, 116, 117, 118, 119, 120, 121, 122, 48, 49, 50, 51, 52, 53, 54, 55, 56, 57, 95] } : ByteArray)] (str trim1) ∧ r0 = (trim1.toList == ({ data := #[] } : ByteArray).toList))))))))))))))
theorem formula_name_W (s0 : ByteArray) (r0 : Bool) (h : formula_name_V s0 r0) : Ret Tryd.prog XS 66 [str s0] (boo r0) := by
  refine fn_rule Tryd.func66 (by kernel_rfl) (by kernel_rfl) (by kernel_rfl) (by kernel_rfl) ?_
  by_cases c1 : s0 = ({ data := #[] } : ByteArray)
  · have h := h.1 c1
    have g_1 := (abt (streq_t c1))
    rw [h]
    exact sr (ids := []) (vs := [boo false]) (mem := []) (d11 g_1 (d11 g_1 (d11 g_1 (d11 g_1 (d11 abtt (d11 abtt (d11 abtt (d11 abtt (d11 abtt (d11 abtt (d11 abtt (d11 abtt (d11 abtt (d11 abtt (d11 abtt (d11 abtt (d11 abtt (d11 abtt (d11 abtt az))))))))))))))))))) (by kernel_rfl) (by kernel_rfl) (rts_sc rfl)
  · have h := h.2 c1
    have g_2 := (abf (streq_f c1))
    have e_3 := fun {o : Orc} {q : List Prop} (r : At o q) => (d11 g_2 (d11 g_2 (d11 (olens Tryd.prog 9 s0 (by kernel_rfl)) (d11 g_2 (d11 g_2 r)))))
    by_cases c2 : ((s0.size : Nat) : Int) > 24
    · have h := h.1 c2
      have g_4 := (abt (dec_t c2))
      rw [h]
      exact sr (ids := []) (vs := [boo false]) (mem := []) (e_3 (d11 g_4 (d11 g_4 (d11 g_4 (d11 abtt (d11 abtt (d11 abtt (d11 abtt (d11 abtt (d11 abtt (d11 abtt (d11 abtt (d11 abtt (d11 abtt (d11 abtt (d11 abtt az)))))))))))))))) (by kernel_rfl) (by kernel_rfl) (rts_sc rfl)
    · have h := h.2 c2
      have g_5 := (abf (dec_f c2))
      have e_6 := fun {o : Orc} {q : List Prop} (r : At o q) => (d11 g_5 (d11 g_5 (d11 g_5 r)))
      by_cases c3 : s0 = ({ data := #[109, 105, 110] } : ByteArray)
      · have h := h.1 c3
        have g_7 := (abt (streq_t c3))
        rw [h]
        exact sr (ids := []) (vs := [boo false]) (mem := []) (e_3 (e_6 (d11 g_7 (d11 g_7 (d11 g_7 (d11 abtt (d11 abtt (d11 abtt (d11 abtt (d11 abtt (d11 abtt (d11 abtt (d11 abtt (d11 abtt az)))))))))))))) (by kernel_rfl) (by kernel_rfl) (rts_sc rfl)
      · have h := h.2 c3
        have g_8 := (abf (streq_f c3))
        have e_9 := fun {o : Orc} {q : List Prop} (r : At o q) => (d11 g_8 (d11 g_8 (d11 g_8 r)))
        by_cases c4 : s0 = ({ data := #[109, 97, 120] } : ByteArray)
        · have h := h.1 c4
          have g_10 := (abt (streq_t c4))
          rw [h]
          exact sr (ids := []) (vs := [boo false]) (mem := []) (e_3 (e_6 (e_9 (d11 g_10 (d11 g_10 (d11 g_10 (d11 g_10 (d11 abtt (d11 abtt (d11 abtt (d11 abtt (d11 abtt az)))))))))))) (by kernel_rfl) (by kernel_rfl) (rts_sc rfl)
        · have h := h.2 c4
          obtain ⟨c5, h⟩ := h
          have g_11 := (abf (streq_f c4))
          have e_12 := fun {o : Orc} {q : List Prop} (r : At o q) => (d11 g_11 (d11 g_11 (d11 (obtt c5) (d11 g_11 (d11 g_11 r)))))
          by_cases c6 : (bt s0 0) < 97
          · have h := h.1 c6
            have g_13 := (abt (dec_t c6))
            rw [h]
            exact sr (ids := []) (vs := [boo false]) (mem := []) (e_3 (e_6 (e_9 (e_12 (d11 g_13 (d11 g_13 (d11 g_13 (d11 g_13 (d11 abtt az))))))))) (by kernel_rfl) (by kernel_rfl) (rts_sc rfl)
          · have h := h.2 c6
            have g_14 := (abf (dec_f c6))
            have e_15 := fun {o : Orc} {q : List Prop} (r : At o q) => (d11 g_14 (d11 g_14 (d11 (obtt c5) (d11 g_14 (d11 g_14 r)))))
            by_cases c7 : (bt s0 0) > 122
            · have h := h.1 c7
              rw [h]
              exact sr (ids := []) (vs := [boo false]) (mem := []) (e_3 (e_6 (e_9 (e_12 (e_15 (d11 (abt (dec_t c7)) az)))))) (by kernel_rfl) (by kernel_rfl) (rts_sc rfl)
            · have h := h.2 c7
              obtain ⟨trim1, c8, h⟩ := h
              rw [h]
              exact sr (ids := []) (vs := [boo (trim1.toList == ({ data := #[] } : ByteArray).toList)]) (mem := []) (e_3 (e_6 (e_9 (e_12 (e_15 (d11 (abf (dec_f c7)) (d11 (ocs c8) az))))))) (by kernel_rfl) (by kernel_rfl) (rts_sc rfl)

-- strings.Trim
abbrev strings_Trim_V (s0 : ByteArray) (r0 : ByteArray) : Prop := ((s0 = ({ data := #[] } : ByteArray) → r0 = s0) ∧ (¬ (s0 = ({ data := #[] } : ByteArray)) → ((({ data := #[97, 98, 99, 100, 101, 102, 103, 104, 105, 106, 107, 108, 109, 110, 111, 112, 113, 114, 115, 116, 117, 118, 119, 120, 121, 122, 48, 49, 50, 51, 52, 53, 54, 55, 56, 57, 95] } : ByteArray) = ({ data := #[] } : ByteArray) → r0 = s0) ∧ (¬ (({ data := #[97, 98, 99, 100, 101, 102, 103, 104, 105, 106, 107, 108, 109, 110, 111, 112, 113, 114, 115, 116, 117, 118, 119, 120, 121, 122, 48, 49, 50, 51, 52, 53, 54, 55, 56, 57, 95] } : ByteArray) = ({ data := #[] } : ByteArray)) → ((((({ data := #[97, 98, 99, 100, 101, 102, 103, 104, 105, 106, 107, 108, 109, 110, 111, 112, 113, 114, 115, 116, 117, 118, 119, 120, 121, 122, 48, 49, 50, 51, 52, 53, 54, 55, 56, 57, 95] } : ByteArray).size : Nat) : Int) = 1 → (Idx 0 ({ data := #[97, 98, 99, 100, 101, 102, 103, 104, 105, 106, 107, 108, 109, 110, 111, 112, 113, 114, 115, 116, 117, 118, 119, 120, 121, 122, 48, 49, 50, 51, 52, 53, 54, 55, 56, 57, 95] } : ByteArray).size) ∧ (((bt ({ data := #[97, 98, 99, 100, 101, 102, 103, 104, 105, 106, 107, 108, 109, 110, 111, 112, 113, 114, 115, 116, 117, 118, 119, 120, 121, 122, 48, 49, 50, 51, 52, 53, 54, 55, 56, 57, 95] } : ByteArray) 0) < 128 → (∃ (trimRightByte1 : ByteArray), Ret Tryd.prog XS 77 [str s0, .sc (.int .u8 (bt ({ data := #[97, 98, 99, 100, 101, 102, 103, 104, 105, 106, 107, 108, 109, 110, 111, 112, 113, 114, 115, 116, 117, 118, 119, 120, 121, 122, 48, 49, 50, 51, 52, 53, 54, 55, 56, 57, 95] } : ByteArray) 0))] (str trimRightByte1) ∧ (∃ (trimLeftByte2 : ByteArray), Ret Tryd.prog XS 76 [str trimRightByte1, .sc (.int .u8 (bt ({ data := #[97, 98, 99, 100, 101, 102, 103, 104, 105, 106, 107, 108, 109, 110, 111, 112, 113, 114, 115, 116, 117, 118, 119, 120, 121, 122, 48, 49, 50, 51, 52, 53, 54, 55, 56, 57, 95] } : ByteArray) 0))] (str trimLeftByte2) ∧ r0 = trimLeftByte2))) ∧ (¬ ((bt ({ data := #[97, 98, 99, 100, 101, 102, 103, 104, 105, 106, 107, 108, 109, 110, 111, 112, 113, 114, 115, 116, 117, 118, 119, 120, 121, 122, 48, 49, 50, 51, 52, 53, 54, 55, 56, 57, 95] } : ByteArray) 0) < 128) → (Ret Tryd.prog XS 78 [str ({ data := #[97, 98, 99, 100, 101, 102, 103, 104, 105, 106, 107, 108, 109, 110, 111, 112, 113, 114, 115, 116, 117, 118, 119, 120, 121, 122, 48, 49, 50, 51, 52, 53, 54, 55, 56, 57, 95] } : ByteArray)] (.tup [.agg setT, boo true]) ∧ (∃ (trimRightASCII1 : ByteArray), Ret Tryd.prog XS 80 [str s0, .ref setT] (str trimRightASCII1) ∧ (∃ (trimLeftASCII2 : ByteArray), Ret Tryd.prog XS 79 [str trimRightASCII1, .ref setT] (str trimLeftASCII2) ∧ r0 = trimLeftASCII2)))))) ∧ (¬ (((({ data := #[97, 98, 99, 100, 101, 102, 103, 104, 105, 106, 107, 108, 109, 110, 111, 112, 113, 114, 115, 116, 117, 118, 119, 120, 121, 122, 48, 49, 50, 51, 52, 53, 54, 55, 56, 57, 95] } : ByteArray).size : Nat) : Int) = 1) → (Ret Tryd.prog XS 78 [str ({ data := #[97, 98, 99, 100, 101, 102, 103, 104, 105, 106, 107, 108, 109, 110, 111, 112, 113, 114, 115, 116, 117, 118, 119, 120, 121, 122, 48, 49, 50, 51, 52, 53, 54, 55, 56, 57, 95] } : ByteArray)] (.tup [.agg setT, boo true]) ∧ (∃ (trimRightASCII1 : ByteArray), Ret Tryd.prog XS 80 [str s0, .ref setT] (str trimRightASCII1) ∧ (∃ (trimLeftASCII2 : ByteArray), Ret Tryd.prog XS 79 [str trimRightASCII1, .ref setT] (str trimLeftASCII2) ∧ r0 = trimLeftASCII2)))))))))
theorem strings_Trim_W (s0 : ByteArray) (r0 : ByteArray) (h : strings_Trim_V s0 r0) : Ret Tryd.prog XS 69 [str s0, str ({ data := #[97, 98, 99, 100, 101, 102, 103, 104, 105, 106, 107, 108, 109, 110, 111, 112, 113, 114, 115, 116, 117, 118, 119, 120, 121, 122, 48, 49, 50, 51, 52, 53, 54, 55, 56, 57, 95] } : ByteArray)] (str r0) := by
  refine fn_rule Tryd.func69 (by kernel_rfl) (by kernel_rfl) (by kernel_rfl) (by kernel_rfl) ?_
  by_cases c1 : s0 = ({ data := #[] } : ByteArray)
  · have h := h.1 c1
    have g_1 := (abt (streq_t c1))
    rw [h]
    exact sr (ids := []) (vs := [str s0]) (mem := []) (d11 g_1 (d11 g_1 (d11 g_1 (d11 abtt az)))) (by kernel_rfl) (by kernel_rfl) (rts_sc rfl)
  · have h := h.2 c1
    have g_2 := (abf (streq_f c1))
    have e_3 := fun {o : Orc} {q : List Prop} (r : At o q) => (d11 g_2 (d11 g_2 (d11 g_2 r)))
    by_cases c2 : ({ data := #[97, 98, 99, 100, 101, 102, 103, 104, 105, 106, 107, 108, 109, 110, 111, 112, 113, 114, 115, 116, 117, 118, 119, 120, 121, 122, 48, 49, 50, 51, 52, 53, 54, 55, 56, 57, 95] } : ByteArray) = ({ data := #[] } : ByteArray)
    · have h := h.1 c2
      rw [h]
      exact sr (ids := []) (vs := [str s0]) (mem := []) (e_3 (d11 (abt (streq_t c2)) az)) (by kernel_rfl) (by kernel_rfl) (rts_sc rfl)
    · have h := h.2 c2
      have e_4 := fun {o : Orc} {q : List Prop} (r : At o q) => (d11 (abf (streq_f c2)) (d11 (olens Tryd.prog 9 ({ data := #[97, 98, 99, 100, 101, 102, 103, 104, 105, 106, 107, 108, 109, 110, 111, 112, 113, 114, 115, 116, 117, 118, 119, 120, 121, 122, 48, 49, 50, 51, 52, 53, 54, 55, 56, 57, 95] } : ByteArray) (by kernel_rfl)) r))
      by_cases c3 : ((({ data := #[97, 98, 99, 100, 101, 102, 103, 104, 105, 106, 107, 108, 109, 110, 111, 112, 113, 114, 115, 116, 117, 118, 119, 120, 121, 122, 48, 49, 50, 51, 52, 53, 54, 55, 56, 57, 95] } : ByteArray).size : Nat) : Int) = 1
      · have h := h.1 c3
        obtain ⟨c4, h⟩ := h
        have g_5 := (abt (beq_t c3))
        have e_6 := fun {o : Orc} {q : List Prop} (r : At o q) => (d11 g_5 (d11 g_5 (d11 (obtt c4) (d11 g_5 (d11 g_5 r)))))
        by_cases c5 : (bt ({ data := #[97, 98, 99, 100, 101, 102, 103, 104, 105, 106, 107, 108, 109, 110, 111, 112, 113, 114, 115, 116, 117, 118, 119, 120, 121, 122, 48, 49, 50, 51, 52, 53, 54, 55, 56, 57, 95] } : ByteArray) 0) < 128
        · have h := h.1 c5
          obtain ⟨trimRightByte1, c6, trimLeftByte2, c7, h⟩ := h
          rw [h]
          exact sr (ids := []) (vs := [str trimLeftByte2]) (mem := []) (e_3 (e_4 (e_6 (d11 (abt (dec_t c5)) (d11 (obtt c4) (d11 (ocs c6) (d11 (obtt c4) (d11 (ocs c7) az)))))))) (by kernel_rfl) (by kernel_rfl) (rts_sc rfl)
        · have h := h.2 c5
          obtain ⟨c6, trimRightASCII1, c7, trimLeftASCII2, c8, h⟩ := h
          rw [h]
          exact sr (ids := []) (vs := [str trimLeftASCII2]) (mem := []) (e_3 (e_4 (e_6 (d11 (abf (dec_f c5)) (d11 (ocs c6) (d11 abtt (d12 (ocl [0] [(0, .box setT)] [str s0, .ptr 0 0 0] (as_cons (ArgTo.same rfl) (as_cons (at_ptr rfl (sames_to (by kernel_rfl))) as_nil)) c7) (d12 (ocl [0] [(0, .box setT)] [str trimRightASCII1, .ptr 0 0 0] (as_cons (ArgTo.same rfl) (as_cons (at_ptr rfl (sames_to (by kernel_rfl))) as_nil)) c8) az)))))))) (by kernel_rfl) (by kernel_rfl) (rts_sc rfl)
      · have h := h.2 c3
        obtain ⟨c4, trimRightASCII1, c5, trimLeftASCII2, c6, h⟩ := h
        have g_7 := (abf (beq_f c3))
        rw [h]
        exact sr (ids := []) (vs := [str trimLeftASCII2]) (mem := []) (e_3 (e_4 (d11 g_7 (d11 g_7 (d11 g_7 (d11 g_7 (d11 abff (d11 (ocs c4) (d11 abtt (d12 (ocl [0] [(0, .box setT)] [str s0, .ptr 0 0 0] (as_cons (ArgTo.same rfl) (as_cons (at_ptr rfl (sames_to (by kernel_rfl))) as_nil)) c5) (d12 (ocl [0] [(0, .box setT)] [str trimRightASCII1, .ptr 0 0 0] (as_cons (ArgTo.same rfl) (as_cons (at_ptr rfl (sames_to (by kernel_rfl))) as_nil)) c6) az))))))))))) (by kernel_rfl) (by kernel_rfl) (rts_sc rfl)

end Go.Ab
end
