/- A part of the proof. Conditions: those of each theorem. -/
import Derived.Test.YtjbodjmkfklleaaDoorETy
import Derived.Test.YtjbodjmkfklleaaDoorEWall
set_option linter.unusedVariables false
set_option linter.unusedSimpArgs false
set_option linter.unusedSectionVars false

section
namespace Go.Ab
open Go.Proofs
set_option maxRecDepth 1000000
set_option linter.unusedVariables false
attribute [local irreducible] todoQ
-- garmentlaw22.SeamPartners
abbrev garmentlaw22_SeamPartners_V (x : Garmentlaw22Places) (r0 : Bool) : Prop := (∃ (partner1a : Int) (partner1b : Int), Ret Tryd.prog XS 10 [int x.from_, int x.to_, boo x.reverse, int x.at_] (.tup [int partner1a, int partner1b]) ∧ (∃ (partner2a : Int) (partner2b : Int), Ret Tryd.prog XS 11 [int x.from_, int x.to_, boo x.reverse, int x.at_] (.tup [int partner2a, int partner2b]) ∧ ((partner1a = partner2a → ((partner1b = partner2b → (∃ (alive3 : Bool), Ret Tryd.prog XS 12 [] (boo alive3) ∧ r0 = alive3)) ∧ (¬ (partner1b = partner2b) → r0 = false))) ∧ (¬ (partner1a = partner2a) → r0 = false))))
theorem garmentlaw22_SeamPartners_W (x : Garmentlaw22Places) (r0 : Bool) (h : garmentlaw22_SeamPartners_V x r0) : Ret Tryd.prog XS 3 [.agg [int x.from_, int x.to_, boo x.reverse, int x.at_]] (boo r0) := by
  refine fn_rule Tryd.func3 (by kernel_rfl) (by kernel_rfl) (by kernel_rfl) (by kernel_rfl) ?_
  obtain ⟨partner1a, partner1b, c1, partner2a, partner2b, c2, h⟩ := h
  have e_1 := fun {o : Orc} {q : List Prop} (r : At o q) => (d11 (ocs c1) (d11 (ocs c2) r))
  by_cases c3 : partner1a = partner2a
  · have h := h.1 c3
    have g_2 := (abt (beq_t c3))
    have e_3 := fun {o : Orc} {q : List Prop} (r : At o q) => (d11 g_2 (d11 g_2 (d11 g_2 (d11 g_2 r))))
    by_cases c4 : partner1b = partner2b
    · have h := h.1 c4
      obtain ⟨alive3, c5, h⟩ := h
      have g_4 := (abt (beq_t c4))
      rw [h]
      exact sr (ids := []) (vs := [boo alive3]) (mem := []) (e_1 (e_3 (d11 g_4 (d11 (ocs c5) (d11 g_4 az))))) (by kernel_rfl) (by kernel_rfl) (rts_sc rfl)
    · have h := h.2 c4
      have g_5 := (abf (beq_f c4))
      rw [h]
      exact sr (ids := []) (vs := [boo false]) (mem := []) (e_1 (e_3 (d11 g_5 (d11 g_5 az)))) (by kernel_rfl) (by kernel_rfl) (rts_sc rfl)
  · have h := h.2 c3
    have g_6 := (abf (beq_f c3))
    rw [h]
    exact sr (ids := []) (vs := [boo false]) (mem := []) (e_1 (d11 g_6 (d11 g_6 (d11 g_6 (d11 g_6 (d11 abff (d11 abff az))))))) (by kernel_rfl) (by kernel_rfl) (rts_sc rfl)
end Go.Ab
end
