/- A part of the proof. Conditions: those of each theorem. -/
import Derived.Test.YtjbodjmkfklleaaDoorETy
import Derived.Test.YtjbodjmkfklleaaDoorEWall
set_option linter.unusedVariables false
set_option linter.unusedSimpArgs false
set_option linter.unusedSectionVars false

section
namespace Go.Ab
open Go.Proofs
set_option maxRecDepth 1000000
set_option linter.unusedVariables false
attribute [local irreducible] todoQ
-- garmentlaw22.SeamCongruents
abbrev garmentlaw22_SeamCongruents_V (a : List Spot) (b : List Spot) (r0 : Bool) : Prop := ((((a.length : Nat) : Int) > 60 → (∃ (alive1 : Bool), Ret Tryd.prog XS 12 [] (boo alive1) ∧ r0 = alive1)) ∧ (¬ (((a.length : Nat) : Int) > 60) → ((((b.length : Nat) : Int) > 60 → (∃ (alive1 : Bool), Ret Tryd.prog XS 12 [] (boo alive1) ∧ r0 = alive1)) ∧ (¬ (((b.length : Nat) : Int) > 60) → (∃ (congruent1a : Turn) (congruent1b : Spot) (congruent1c : Bool), Ret Tryd.prog XS 13 [.sl 2 (a.map cSpot), .sl 2 (b.map cSpot)] (.tup [.agg [boo congruent1a.flip, int congruent1a.quarter], .agg [int congruent1b.x, int congruent1b.y], boo congruent1c]) ∧ (∃ (congruent2a : Turn) (congruent2b : Spot) (congruent2c : Bool), Ret Tryd.prog XS 14 [.sl 2 (a.map cSpot), .sl 2 (b.map cSpot)] (.tup [.agg [boo congruent2a.flip, int congruent2a.quarter], .agg [int congruent2b.x, int congruent2b.y], boo congruent2c]) ∧ ((congruent1a = congruent2a → ((congruent1b = congruent2b → ((congruent1c = congruent2c → (∃ (alive3 : Bool), Ret Tryd.prog XS 12 [] (boo alive3) ∧ r0 = alive3)) ∧ (¬ (congruent1c = congruent2c) → r0 = false))) ∧ (¬ (congruent1b = congruent2b) → r0 = false))) ∧ (¬ (congruent1a = congruent2a) → r0 = false))))))))
theorem garmentlaw22_SeamCongruents_W (a : List Spot) (b : List Spot) (r0 : Bool) (h : garmentlaw22_SeamCongruents_V a b r0) : Ret Tryd.prog XS 4 [.sl 2 (a.map cSpot), .sl 2 (b.map cSpot)] (boo r0) := by
  refine fn_rule Tryd.func4 (by kernel_rfl) (by kernel_rfl) (by kernel_rfl) (by kernel_rfl) ?_
  have e_1 := fun {o : Orc} {q : List Prop} (r : At o q) => (d11 (olen cSpot Tryd.prog 29 2 a (by kernel_rfl)) r)
  by_cases c1 : ((a.length : Nat) : Int) > 60
  · have h := h.1 c1
    obtain ⟨alive1, c2, h⟩ := h
    have g_2 := (abt (dec_t c1))
    rw [h]
    exact sr (ids := []) (vs := [boo alive1]) (mem := []) (e_1 (d11 g_2 (d11 g_2 (d11 g_2 (d11 g_2 (d11 abtt (d11 (ocs c2) az))))))) (by kernel_rfl) (by kernel_rfl) (rts_sc rfl)
  · have h := h.2 c1
    have g_3 := (abf (dec_f c1))
    have e_4 := fun {o : Orc} {q : List Prop} (r : At o q) => (d11 g_3 (d11 g_3 (d11 (olen cSpot Tryd.prog 29 2 b (by kernel_rfl)) (d11 g_3 (d11 g_3 r)))))
    by_cases c2 : ((b.length : Nat) : Int) > 60
    · have h := h.1 c2
      obtain ⟨alive1, c3, h⟩ := h
      rw [h]
      exact sr (ids := []) (vs := [boo alive1]) (mem := []) (e_1 (e_4 (d11 (abt (dec_t c2)) (d11 (ocs c3) az)))) (by kernel_rfl) (by kernel_rfl) (rts_sc rfl)
    · have h := h.2 c2
      obtain ⟨congruent1a, congruent1b, congruent1c, c3, congruent2a, congruent2b, congruent2c, c4, h⟩ := h
      have e_5 := fun {o : Orc} {q : List Prop} (r : At o q) => (d11 (abf (dec_f c2)) (d11 (ocs c3) (d11 (ocs c4) r)))
      by_cases c5 : congruent1a = congruent2a
      · have h := h.1 c5
        have g_6 := (abt (sTurn_t c5))
        have e_7 := fun {o : Orc} {q : List Prop} (r : At o q) => (d11 g_6 (d11 g_6 (d11 g_6 (d11 g_6 r))))
        by_cases c6 : congruent1b = congruent2b
        · have h := h.1 c6
          have g_8 := (abt (sSpot_t c6))
          have e_9 := fun {o : Orc} {q : List Prop} (r : At o q) => (d11 g_8 (d11 g_8 (d11 g_8 (d11 g_8 r))))
          by_cases c7 : congruent1c = congruent2c
          · have h := h.1 c7
            obtain ⟨alive3, c8, h⟩ := h
            have g_10 := (abt (beq_t c7))
            rw [h]
            exact sr (ids := []) (vs := [boo alive3]) (mem := []) (e_1 (e_4 (e_5 (e_7 (e_9 (d11 g_10 (d11 (ocs c8) (d11 g_10 az)))))))) (by kernel_rfl) (by kernel_rfl) (rts_sc rfl)
          · have h := h.2 c7
            have g_11 := (abf (beq_f c7))
            rw [h]
            exact sr (ids := []) (vs := [boo false]) (mem := []) (e_1 (e_4 (e_5 (e_7 (e_9 (d11 g_11 (d11 g_11 az))))))) (by kernel_rfl) (by kernel_rfl) (rts_sc rfl)
        · have h := h.2 c6
          have g_12 := (abf (sSpot_f c6))
          rw [h]
          exact sr (ids := []) (vs := [boo false]) (mem := []) (e_1 (e_4 (e_5 (e_7 (d11 g_12 (d11 g_12 (d11 g_12 (d11 g_12 (d11 abff (d11 abff az)))))))))) (by kernel_rfl) (by kernel_rfl) (rts_sc rfl)
      · have h := h.2 c5
        have g_13 := (abf (sTurn_f c5))
        rw [h]
        exact sr (ids := []) (vs := [boo false]) (mem := []) (e_1 (e_4 (e_5 (d11 g_13 (d11 g_13 (d11 g_13 (d11 g_13 (d11 abff (d11 abff (d11 abff (d11 abff (d11 abff (d11 abff az))))))))))))) (by kernel_rfl) (by kernel_rfl) (rts_sc rfl)
end Go.Ab
end
