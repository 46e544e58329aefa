/- A part of the proof. Conditions: those of each theorem. -/
import Derived.Test.YtjbodjmkfklleaaDoorETy
import Derived.Test.YtjbodjmkfklleaaDoorEX
set_option linter.unusedVariables false
set_option linter.unusedSimpArgs false
set_option linter.unusedSectionVars false

section
namespace Go.Ab
open Go.Proofs
set_option maxRecDepth 1000000
set_option linter.unusedVariables false
attribute [local irreducible] todoQ
-- seam.Partner
abbrev seam_Partner_V (listappend : Int) (a : Int) (a2 : Bool) (a3 : Int) (r0 : Int) (r1 : Int) : Prop := ((listappend < 1 → r0 = 0 ∧ r1 = 3) ∧ (¬ (listappend < 1) → ((listappend > 1099511627776 → r0 = 0 ∧ r1 = 3) ∧ (¬ (listappend > 1099511627776) → ((a < 0 → r0 = 0 ∧ r1 = 3) ∧ (¬ (a < 0) → ((a > 1099511627776 → r0 = 0 ∧ r1 = 3) ∧ (¬ (a > 1099511627776) → ((a3 < 0 → r0 = 0 ∧ r1 = 3) ∧ (¬ (a3 < 0) → ((a3 > listappend → r0 = 0 ∧ r1 = 3) ∧ (¬ (a3 > listappend) → (InU64 a3) ∧ (InU64 a) ∧ (∃ (mul641a : Int) (mul641b : Int), Ret Tryd.prog XS 24 [.sc (.int .u64 a3), .sc (.int .u64 a)] (.tup [.sc (.int .u64 mul641a), .sc (.int .u64 mul641b)]) ∧ (InU64 listappend) ∧ (∃ (div642a : Int) (div642b : Int), Ret Tryd.prog XS 25 [.sc (.int .u64 mul641a), .sc (.int .u64 mul641b), .sc (.int .u64 listappend)] (.tup [.sc (.int .u64 div642a), .sc (.int .u64 div642b)]) ∧ (InU64 (listappend - div642b)) ∧ ((div642b ≥ (listappend - div642b) → (InU64 (div642a + 1)) ∧ ((a2 = true → (InR (div642a + 1)) ∧ (InR (a - (div642a + 1))) ∧ r0 = (a - (div642a + 1)) ∧ r1 = 0) ∧ (a2 = false → (InR (div642a + 1)) ∧ r0 = (div642a + 1) ∧ r1 = 0))) ∧ (¬ (div642b ≥ (listappend - div642b)) → ((a2 = true → (InR div642a) ∧ (InR (a - div642a)) ∧ r0 = (a - div642a) ∧ r1 = 0) ∧ (a2 = false → (InR div642a) ∧ r0 = div642a ∧ r1 = 0))))))))))))))))))
theorem seam_Partner_W (listappend : Int) (a : Int) (a2 : Bool) (a3 : Int) (r0 : Int) (r1 : Int) (h : seam_Partner_V listappend a a2 a3 r0 r1) : Ret Tryd.prog XS 10 [int listappend, int a, boo a2, int a3] (.tup [int r0, int r1]) := by
  refine fn_rule Tryd.func10 (by kernel_rfl) (by kernel_rfl) (by kernel_rfl) (by kernel_rfl) ?_
  by_cases c1 : listappend < 1
  · have h := h.1 c1
    have g_1 := (abt (dec_t c1))
    rw [h.1, h.2]
    exact sr (ids := []) (vs := [int 0, int 3]) (mem := []) (d11 g_1 (d11 g_1 (d11 g_1 (d11 abtt (d11 abtt (d11 abtt (d11 abtt (d11 abtt (d11 abtt (d11 abtt (d11 abtt (d11 abtt (d11 abtt (d11 abtt (d11 abtt (d11 abtt (d11 abtt az))))))))))))))))) (by kernel_rfl) (by kernel_rfl) (rts_sc (rts_sc rfl))
  · have h := h.2 c1
    have g_2 := (abf (dec_f c1))
    have e_3 := fun {o : Orc} {q : List Prop} (r : At o q) => (d11 g_2 (d11 g_2 (d11 g_2 r)))
    by_cases c2 : listappend > 1099511627776
    · have h := h.1 c2
      have g_4 := (abt (dec_t c2))
      rw [h.1, h.2]
      exact sr (ids := []) (vs := [int 0, int 3]) (mem := []) (e_3 (d11 g_4 (d11 g_4 (d11 g_4 (d11 abtt (d11 abtt (d11 abtt (d11 abtt (d11 abtt (d11 abtt (d11 abtt (d11 abtt (d11 abtt (d11 abtt (d11 abtt az))))))))))))))) (by kernel_rfl) (by kernel_rfl) (rts_sc (rts_sc rfl))
    · have h := h.2 c2
      have g_5 := (abf (dec_f c2))
      have e_6 := fun {o : Orc} {q : List Prop} (r : At o q) => (d11 g_5 (d11 g_5 (d11 g_5 r)))
      by_cases c3 : a < 0
      · have h := h.1 c3
        have g_7 := (abt (dec_t c3))
        rw [h.1, h.2]
        exact sr (ids := []) (vs := [int 0, int 3]) (mem := []) (e_3 (e_6 (d11 g_7 (d11 g_7 (d11 g_7 (d11 abtt (d11 abtt (d11 abtt (d11 abtt (d11 abtt (d11 abtt (d11 abtt (d11 abtt az))))))))))))) (by kernel_rfl) (by kernel_rfl) (rts_sc (rts_sc rfl))
      · have h := h.2 c3
        have g_8 := (abf (dec_f c3))
        have e_9 := fun {o : Orc} {q : List Prop} (r : At o q) => (d11 g_8 (d11 g_8 (d11 g_8 r)))
        by_cases c4 : a > 1099511627776
        · have h := h.1 c4
          have g_10 := (abt (dec_t c4))
          rw [h.1, h.2]
          exact sr (ids := []) (vs := [int 0, int 3]) (mem := []) (e_3 (e_6 (e_9 (d11 g_10 (d11 g_10 (d11 g_10 (d11 abtt (d11 abtt (d11 abtt (d11 abtt (d11 abtt az))))))))))) (by kernel_rfl) (by kernel_rfl) (rts_sc (rts_sc rfl))
        · have h := h.2 c4
          have g_11 := (abf (dec_f c4))
          have e_12 := fun {o : Orc} {q : List Prop} (r : At o q) => (d11 g_11 (d11 g_11 (d11 g_11 r)))
          by_cases c5 : a3 < 0
          · have h := h.1 c5
            have g_13 := (abt (dec_t c5))
            rw [h.1, h.2]
            exact sr (ids := []) (vs := [int 0, int 3]) (mem := []) (e_3 (e_6 (e_9 (e_12 (d11 g_13 (d11 g_13 (d11 g_13 (d11 g_13 (d11 abtt az))))))))) (by kernel_rfl) (by kernel_rfl) (rts_sc (rts_sc rfl))
          · have h := h.2 c5
            have g_14 := (abf (dec_f c5))
            have e_15 := fun {o : Orc} {q : List Prop} (r : At o q) => (d11 g_14 (d11 g_14 (d11 g_14 (d11 g_14 r))))
            by_cases c6 : a3 > listappend
            · have h := h.1 c6
              rw [h.1, h.2]
              exact sr (ids := []) (vs := [int 0, int 3]) (mem := []) (e_3 (e_6 (e_9 (e_12 (e_15 (d11 (abt (dec_t c6)) az)))))) (by kernel_rfl) (by kernel_rfl) (rts_sc (rts_sc rfl))
            · have h := h.2 c6
              obtain ⟨c7, c8, mul641a, mul641b, c9, c10, div642a, div642b, c11, c12, h⟩ := h
              have g_16 := (oconv Tryd.prog 3 72 .i64 .u64 (by kernel_rfl) (by kernel_rfl) (wu64 c10))
              have e_17 := fun {o : Orc} {q : List Prop} (r : At o q) => (d11 (abf (dec_f c6)) (d11 (oconv Tryd.prog 3 72 .i64 .u64 (by kernel_rfl) (by kernel_rfl) (wu64 c7)) (d11 (oconv Tryd.prog 3 72 .i64 .u64 (by kernel_rfl) (by kernel_rfl) (wu64 c8)) (d11 (ocs c9) (d11 g_16 (d11 (ocs c11) (d11 g_16 (d11 (osub Tryd.prog 72 (wu64 c12)) r))))))))
              by_cases c13 : div642b ≥ (listappend - div642b)
              · have h := h.1 c13
                obtain ⟨c14, h⟩ := h
                have e_18 := fun {o : Orc} {q : List Prop} (r : At o q) => (d11 (abt (dec_t c13)) (d11 (oadd Tryd.prog 72 (wu64 c14)) r))
                rcases Bool.eq_false_or_eq_true a2 with c15 | c15
                · have h := h.1 c15
                  obtain ⟨c16, c17, h⟩ := h
                  have g_19 := (oconv Tryd.prog 72 3 .u64 .i64 (by kernel_rfl) (by kernel_rfl) (wi64 c16))
                  rw [h.1, h.2]
                  exact sr (ids := []) (vs := [int (a - (div642a + 1)), int 0]) (mem := []) (e_3 (e_6 (e_9 (e_12 (e_15 (e_17 (e_18 (d11 (abt c15) (d11 g_19 (d11 (osub Tryd.prog 3 (wi64 c17)) az)))))))))) (by kernel_rfl) (by kernel_rfl) (rts_sc (rts_sc rfl))
                · have h := h.2 c15
                  obtain ⟨c16, h⟩ := h
                  have g_20 := (oconv Tryd.prog 72 3 .u64 .i64 (by kernel_rfl) (by kernel_rfl) (wi64 c16))
                  rw [h.1, h.2]
                  exact sr (ids := []) (vs := [int (div642a + 1), int 0]) (mem := []) (e_3 (e_6 (e_9 (e_12 (e_15 (e_17 (e_18 (d11 (abf c15) (d11 g_20 az))))))))) (by kernel_rfl) (by kernel_rfl) (rts_sc (rts_sc rfl))
              · have h := h.2 c13
                have e_21 := fun {o : Orc} {q : List Prop} (r : At o q) => (d11 (abf (dec_f c13)) r)
                rcases Bool.eq_false_or_eq_true a2 with c14 | c14
                · have h := h.1 c14
                  obtain ⟨c15, c16, h⟩ := h
                  have g_22 := (oconv Tryd.prog 72 3 .u64 .i64 (by kernel_rfl) (by kernel_rfl) (wi64 c15))
                  rw [h.1, h.2]
                  exact sr (ids := []) (vs := [int (a - div642a), int 0]) (mem := []) (e_3 (e_6 (e_9 (e_12 (e_15 (e_17 (e_21 (d11 (abt c14) (d11 g_22 (d11 (osub Tryd.prog 3 (wi64 c16)) az)))))))))) (by kernel_rfl) (by kernel_rfl) (rts_sc (rts_sc rfl))
                · have h := h.2 c14
                  obtain ⟨c15, h⟩ := h
                  have g_23 := (oconv Tryd.prog 72 3 .u64 .i64 (by kernel_rfl) (by kernel_rfl) (wi64 c15))
                  rw [h.1, h.2]
                  exact sr (ids := []) (vs := [int div642a, int 0]) (mem := []) (e_3 (e_6 (e_9 (e_12 (e_15 (e_17 (e_21 (d11 (abf c14) (d11 g_23 az))))))))) (by kernel_rfl) (by kernel_rfl) (rts_sc (rts_sc rfl))

-- math/bits.Mul64
abbrev math_bits_Mul64_V (x : Int) (y : Int) (r0 : Int) (r1 : Int) : Prop := r0 = (IntKind.wrap .u64 ((IntKind.wrap .u64 ((IntKind.wrap .u64 ((shR .u64 x 32) * (shR .u64 y 32))) + (shR .u64 (IntKind.wrap .u64 ((IntKind.wrap .u64 ((shR .u64 x 32) * (bAnd .u64 y 4294967295))) + (shR .u64 (IntKind.wrap .u64 ((bAnd .u64 x 4294967295) * (bAnd .u64 y 4294967295))) 32))) 32))) + (shR .u64 (IntKind.wrap .u64 ((bAnd .u64 (IntKind.wrap .u64 ((IntKind.wrap .u64 ((shR .u64 x 32) * (bAnd .u64 y 4294967295))) + (shR .u64 (IntKind.wrap .u64 ((bAnd .u64 x 4294967295) * (bAnd .u64 y 4294967295))) 32))) 4294967295) + (IntKind.wrap .u64 ((bAnd .u64 x 4294967295) * (shR .u64 y 32))))) 32))) ∧ r1 = (IntKind.wrap .u64 (x * y))
theorem math_bits_Mul64_W (x : Int) (y : Int) (r0 : Int) (r1 : Int) (h : math_bits_Mul64_V x y r0 r1) : Ret Tryd.prog XS 24 [.sc (.int .u64 x), .sc (.int .u64 y)] (.tup [.sc (.int .u64 r0), .sc (.int .u64 r1)]) := by
  refine fn_rule Tryd.func24 (by kernel_rfl) (by kernel_rfl) (by kernel_rfl) (by kernel_rfl) ?_
  rw [h.1, h.2]
  exact sr (ids := []) (vs := [.sc (.int .u64 (IntKind.wrap .u64 ((IntKind.wrap .u64 ((IntKind.wrap .u64 ((shR .u64 x 32) * (shR .u64 y 32))) + (shR .u64 (IntKind.wrap .u64 ((IntKind.wrap .u64 ((shR .u64 x 32) * (bAnd .u64 y 4294967295))) + (shR .u64 (IntKind.wrap .u64 ((bAnd .u64 x 4294967295) * (bAnd .u64 y 4294967295))) 32))) 32))) + (shR .u64 (IntKind.wrap .u64 ((bAnd .u64 (IntKind.wrap .u64 ((IntKind.wrap .u64 ((shR .u64 x 32) * (bAnd .u64 y 4294967295))) + (shR .u64 (IntKind.wrap .u64 ((bAnd .u64 x 4294967295) * (bAnd .u64 y 4294967295))) 32))) 4294967295) + (IntKind.wrap .u64 ((bAnd .u64 x 4294967295) * (shR .u64 y 32))))) 32)))), .sc (.int .u64 (IntKind.wrap .u64 (x * y)))]) (mem := []) (d11 (obAnd Tryd.prog 72 .u64 x 4294967295) (d11 (oshr Tryd.prog 72 .u64 .u64 x 32 (by decide)) (d11 (obAnd Tryd.prog 72 .u64 y 4294967295) (d11 (oshr Tryd.prog 72 .u64 .u64 y 32 (by decide)) (d11 (omulw Tryd.prog 72 .u64 (bAnd .u64 x 4294967295) (bAnd .u64 y 4294967295)) (d11 (omulw Tryd.prog 72 .u64 (shR .u64 x 32) (bAnd .u64 y 4294967295)) (d11 (oshr Tryd.prog 72 .u64 .u64 (IntKind.wrap .u64 ((bAnd .u64 x 4294967295) * (bAnd .u64 y 4294967295))) 32 (by decide)) (d11 (oaddw Tryd.prog 72 .u64 (IntKind.wrap .u64 ((shR .u64 x 32) * (bAnd .u64 y 4294967295))) (shR .u64 (IntKind.wrap .u64 ((bAnd .u64 x 4294967295) * (bAnd .u64 y 4294967295))) 32)) (d11 (obAnd Tryd.prog 72 .u64 (IntKind.wrap .u64 ((IntKind.wrap .u64 ((shR .u64 x 32) * (bAnd .u64 y 4294967295))) + (shR .u64 (IntKind.wrap .u64 ((bAnd .u64 x 4294967295) * (bAnd .u64 y 4294967295))) 32))) 4294967295) (d11 (oshr Tryd.prog 72 .u64 .u64 (IntKind.wrap .u64 ((IntKind.wrap .u64 ((shR .u64 x 32) * (bAnd .u64 y 4294967295))) + (shR .u64 (IntKind.wrap .u64 ((bAnd .u64 x 4294967295) * (bAnd .u64 y 4294967295))) 32))) 32 (by decide)) (d11 (omulw Tryd.prog 72 .u64 (bAnd .u64 x 4294967295) (shR .u64 y 32)) (d11 (oaddw Tryd.prog 72 .u64 (bAnd .u64 (IntKind.wrap .u64 ((IntKind.wrap .u64 ((shR .u64 x 32) * (bAnd .u64 y 4294967295))) + (shR .u64 (IntKind.wrap .u64 ((bAnd .u64 x 4294967295) * (bAnd .u64 y 4294967295))) 32))) 4294967295) (IntKind.wrap .u64 ((bAnd .u64 x 4294967295) * (shR .u64 y 32)))) (d11 (omulw Tryd.prog 72 .u64 (shR .u64 x 32) (shR .u64 y 32)) (d11 (oaddw Tryd.prog 72 .u64 (IntKind.wrap .u64 ((shR .u64 x 32) * (shR .u64 y 32))) (shR .u64 (IntKind.wrap .u64 ((IntKind.wrap .u64 ((shR .u64 x 32) * (bAnd .u64 y 4294967295))) + (shR .u64 (IntKind.wrap .u64 ((bAnd .u64 x 4294967295) * (bAnd .u64 y 4294967295))) 32))) 32)) (d11 (oshr Tryd.prog 72 .u64 .u64 (IntKind.wrap .u64 ((bAnd .u64 (IntKind.wrap .u64 ((IntKind.wrap .u64 ((shR .u64 x 32) * (bAnd .u64 y 4294967295))) + (shR .u64 (IntKind.wrap .u64 ((bAnd .u64 x 4294967295) * (bAnd .u64 y 4294967295))) 32))) 4294967295) + (IntKind.wrap .u64 ((bAnd .u64 x 4294967295) * (shR .u64 y 32))))) 32 (by decide)) (d11 (oaddw Tryd.prog 72 .u64 (IntKind.wrap .u64 ((IntKind.wrap .u64 ((shR .u64 x 32) * (shR .u64 y 32))) + (shR .u64 (IntKind.wrap .u64 ((IntKind.wrap .u64 ((shR .u64 x 32) * (bAnd .u64 y 4294967295))) + (shR .u64 (IntKind.wrap .u64 ((bAnd .u64 x 4294967295) * (bAnd .u64 y 4294967295))) 32))) 32))) (shR .u64 (IntKind.wrap .u64 ((bAnd .u64 (IntKind.wrap .u64 ((IntKind.wrap .u64 ((shR .u64 x 32) * (bAnd .u64 y 4294967295))) + (shR .u64 (IntKind.wrap .u64 ((bAnd .u64 x 4294967295) * (bAnd .u64 y 4294967295))) 32))) 4294967295) + (IntKind.wrap .u64 ((bAnd .u64 x 4294967295) * (shR .u64 y 32))))) 32)) (d11 (omulw Tryd.prog 72 .u64 x y) az))))))))))))))))) (by kernel_rfl) (by kernel_rfl) (rts_sc (rts_sc rfl))

end Go.Ab
end

section
namespace Go.Ab
open Go.Proofs
set_option maxRecDepth 1000000
set_option linter.unusedVariables false
attribute [local irreducible] todoQ
-- math/bits.Div64
def math_bits_Div64_S0 (listappend : Int) (a : Int) (a2 : Int) (leadingZeros641 : Int) (x1 : Int) (x2 : Int) (x3 : Int) (x7 : Int) (x9 : Int) (x10 : Int) (v15 : Int) (v16 : Int) : AS := ⟨[(2, .sc (.int .u64 x1)), (8, .sc (.int .u64 leadingZeros641)), (9, .sc (.int .u64 x2)), (10, .sc (.int .u64 x3)), (11, .sc (.int .u64 x7)), (13, .sc (.int .u64 x9)), (14, .sc (.int .u64 x10)), (15, .sc (.int .u64 v15)), (16, .sc (.int .u64 v16))], [], 0⟩
def math_bits_Div64_S1 (listappend : Int) (a : Int) (a2 : Int) (leadingZeros641 : Int) (x1 : Int) (x2 : Int) (x3 : Int) (x10 : Int) (v15' : Int) (v16' : Int) (v17 : Int) (v18 : Int) : AS := ⟨[(2, .sc (.int .u64 x1)), (8, .sc (.int .u64 leadingZeros641)), (9, .sc (.int .u64 x2)), (10, .sc (.int .u64 x3)), (14, .sc (.int .u64 x10)), (15, .sc (.int .u64 v15')), (16, .sc (.int .u64 v16')), (17, .sc (.int .u64 v17)), (18, .sc (.int .u64 v18))], [], 0⟩
abbrev math_bits_Div64_V (listappend : Int) (a : Int) (a2 : Int) (r0 : Int) (r1 : Int) (I0 : Int → Int → Int → Int → Int → Int → Int → Int → Int → Prop) (M0 : Int → Int → Int → Int → Int → Int → Int → Int → Int → Nat) (I1 : Int → Int → Int → Int → Int → Int → Int → Int → Int → Prop) (M1 : Int → Int → Int → Int → Int → Int → Int → Int → Int → Nat) : Prop := ((a2 = 0 → False) ∧ (¬ (a2 = 0) → ((a2 ≤ listappend → False) ∧ (¬ (a2 ≤ listappend) → ((listappend = 0 → (a2 ≠ 0) ∧ (InU64 (a.tdiv a2)) ∧ (∃ (x1 : Int), x1 = (a.tdiv a2) ∧ (∃ (x2 : Int), x2 = (a.tmod a2) ∧ r0 = x1 ∧ r1 = x2))) ∧ (¬ (listappend = 0) → (∃ (leadingZeros641 : Int), Ret Tryd.prog XS 39 [.sc (.int .u64 a2)] (int leadingZeros641) ∧ (InU64 leadingZeros641) ∧ (0 ≤ leadingZeros641) ∧ (∃ (x1 : Int), x1 = (shW .u64 a2 leadingZeros641) ∧ (∃ (x2 : Int), x2 = (shR .u64 x1 32) ∧ (∃ (x3 : Int), x3 = (bAnd .u64 x1 4294967295) ∧ (∃ (x4 : Int), x4 = (shW .u64 listappend leadingZeros641) ∧ (∃ (x5 : Int), x5 = (IntKind.wrap .u64 (64 - leadingZeros641)) ∧ (0 ≤ x5) ∧ (∃ (x6 : Int), x6 = (shR .u64 a x5) ∧ (∃ (x7 : Int), x7 = (bOr .u64 x4 x6) ∧ (∃ (x8 : Int), x8 = (shW .u64 a leadingZeros641) ∧ (∃ (x9 : Int), x9 = (shR .u64 x8 32) ∧ (∃ (x10 : Int), x10 = (bAnd .u64 x8 4294967295) ∧ (x2 ≠ 0) ∧ (InU64 (x7.tdiv x2)) ∧ (∃ (x11 : Int), x11 = (x7.tdiv x2) ∧ (∃ (x12 : Int), x12 = (IntKind.wrap .u64 (x11 * x2)) ∧ (∃ (x13 : Int), x13 = (IntKind.wrap .u64 (x7 - x12)) ∧ I0 leadingZeros641 x1 x2 x3 x7 x9 x10 x11 x13))))))))))))))))))))
abbrev math_bits_Div64_V0 (listappend : Int) (a : Int) (a2 : Int) (r0 : Int) (r1 : Int) (I0 : Int → Int → Int → Int → Int → Int → Int → Int → Int → Prop) (M0 : Int → Int → Int → Int → Int → Int → Int → Int → Int → Nat) (I1 : Int → Int → Int → Int → Int → Int → Int → Int → Int → Prop) (M1 : Int → Int → Int → Int → Int → Int → Int → Int → Int → Nat) (leadingZeros641 : Int) (x1 : Int) (x2 : Int) (x3 : Int) (x7 : Int) (x9 : Int) (x10 : Int) (v15 : Int) (v16 : Int) : Prop := ((v15 ≥ 4294967296 → (∃ (x1_1 : Int), x1_1 = (IntKind.wrap .u64 (v15 - 1)) ∧ (∃ (x2_1 : Int), x2_1 = (IntKind.wrap .u64 (v16 + x2)) ∧ ((x2_1 ≥ 4294967296 → (∃ (x3_1 : Int), x3_1 = (IntKind.wrap .u64 (x7 * 4294967296)) ∧ (∃ (x4_1 : Int), x4_1 = (IntKind.wrap .u64 (x3_1 + x9)) ∧ (∃ (x5_1 : Int), x5_1 = (IntKind.wrap .u64 (x1_1 * x1)) ∧ (∃ (x6_1 : Int), x6_1 = (IntKind.wrap .u64 (x4_1 - x5_1)) ∧ (x2 ≠ 0) ∧ (InU64 (x6_1.tdiv x2)) ∧ (∃ (x7_1 : Int), x7_1 = (x6_1.tdiv x2) ∧ (∃ (x8_1 : Int), x8_1 = (IntKind.wrap .u64 (x7_1 * x2)) ∧ (∃ (x9_1 : Int), x9_1 = (IntKind.wrap .u64 (x6_1 - x8_1)) ∧ I1 leadingZeros641 x1 x2 x3 x10 x1_1 x9_1 x6_1 x7_1)))))))) ∧ (¬ (x2_1 ≥ 4294967296) → I0 leadingZeros641 x1 x2 x3 x7 x9 x10 x1_1 x2_1 ∧ M0 leadingZeros641 x1 x2 x3 x7 x9 x10 x1_1 x2_1 < M0 leadingZeros641 x1 x2 x3 x7 x9 x10 v15 v16))))) ∧ (¬ (v15 ≥ 4294967296) → (∃ (x1_1 : Int), x1_1 = (IntKind.wrap .u64 (v15 * x3)) ∧ (∃ (x2_1 : Int), x2_1 = (IntKind.wrap .u64 (4294967296 * v16)) ∧ (∃ (x3_1 : Int), x3_1 = (IntKind.wrap .u64 (x2_1 + x9)) ∧ ((x1_1 > x3_1 → (∃ (x4_1 : Int), x4_1 = (IntKind.wrap .u64 (v15 - 1)) ∧ (∃ (x5_1 : Int), x5_1 = (IntKind.wrap .u64 (v16 + x2)) ∧ ((x5_1 ≥ 4294967296 → (∃ (x6_1 : Int), x6_1 = (IntKind.wrap .u64 (x7 * 4294967296)) ∧ (∃ (x7_1 : Int), x7_1 = (IntKind.wrap .u64 (x6_1 + x9)) ∧ (∃ (x8_1 : Int), x8_1 = (IntKind.wrap .u64 (x4_1 * x1)) ∧ (∃ (x9_1 : Int), x9_1 = (IntKind.wrap .u64 (x7_1 - x8_1)) ∧ (x2 ≠ 0) ∧ (InU64 (x9_1.tdiv x2)) ∧ (∃ (x10_1 : Int), x10_1 = (x9_1.tdiv x2) ∧ (∃ (x11_1 : Int), x11_1 = (IntKind.wrap .u64 (x10_1 * x2)) ∧ (∃ (x12_1 : Int), x12_1 = (IntKind.wrap .u64 (x9_1 - x11_1)) ∧ I1 leadingZeros641 x1 x2 x3 x10 x4_1 x12_1 x9_1 x10_1)))))))) ∧ (¬ (x5_1 ≥ 4294967296) → I0 leadingZeros641 x1 x2 x3 x7 x9 x10 x4_1 x5_1 ∧ M0 leadingZeros641 x1 x2 x3 x7 x9 x10 x4_1 x5_1 < M0 leadingZeros641 x1 x2 x3 x7 x9 x10 v15 v16))))) ∧ (¬ (x1_1 > x3_1) → (∃ (x4_1 : Int), x4_1 = (IntKind.wrap .u64 (x7 * 4294967296)) ∧ (∃ (x5_1 : Int), x5_1 = (IntKind.wrap .u64 (x4_1 + x9)) ∧ (∃ (x6_1 : Int), x6_1 = (IntKind.wrap .u64 (v15 * x1)) ∧ (∃ (x7_1 : Int), x7_1 = (IntKind.wrap .u64 (x5_1 - x6_1)) ∧ (x2 ≠ 0) ∧ (InU64 (x7_1.tdiv x2)) ∧ (∃ (x8_1 : Int), x8_1 = (x7_1.tdiv x2) ∧ (∃ (x9_1 : Int), x9_1 = (IntKind.wrap .u64 (x8_1 * x2)) ∧ (∃ (x10_1 : Int), x10_1 = (IntKind.wrap .u64 (x7_1 - x9_1)) ∧ I1 leadingZeros641 x1 x2 x3 x10 v15 x10_1 x7_1 x8_1))))))))))))))
abbrev math_bits_Div64_V1 (listappend : Int) (a : Int) (a2 : Int) (r0 : Int) (r1 : Int) (I0 : Int → Int → Int → Int → Int → Int → Int → Int → Int → Prop) (M0 : Int → Int → Int → Int → Int → Int → Int → Int → Int → Nat) (I1 : Int → Int → Int → Int → Int → Int → Int → Int → Int → Prop) (M1 : Int → Int → Int → Int → Int → Int → Int → Int → Int → Nat) (leadingZeros641 : Int) (x1 : Int) (x2 : Int) (x3 : Int) (x10 : Int) (v15' : Int) (v16' : Int) (v17 : Int) (v18 : Int) : Prop := ((v18 ≥ 4294967296 → (∃ (x1_2 : Int), x1_2 = (IntKind.wrap .u64 (v18 - 1)) ∧ (∃ (x2_2 : Int), x2_2 = (IntKind.wrap .u64 (v16' + x2)) ∧ ((x2_2 ≥ 4294967296 → (∃ (x3_2 : Int), x3_2 = (IntKind.wrap .u64 (v15' * 4294967296)) ∧ (∃ (x4_2 : Int), x4_2 = (IntKind.wrap .u64 (x3_2 + x1_2)) ∧ (∃ (x5_2 : Int), x5_2 = (IntKind.wrap .u64 (v17 * 4294967296)) ∧ (∃ (x6_2 : Int), x6_2 = (IntKind.wrap .u64 (x5_2 + x10)) ∧ (∃ (x7_2 : Int), x7_2 = (IntKind.wrap .u64 (x1_2 * x1)) ∧ (∃ (x8_2 : Int), x8_2 = (IntKind.wrap .u64 (x6_2 - x7_2)) ∧ (0 ≤ leadingZeros641) ∧ (∃ (x9_2 : Int), x9_2 = (shR .u64 x8_2 leadingZeros641) ∧ r0 = x4_2 ∧ r1 = x9_2)))))))) ∧ (¬ (x2_2 ≥ 4294967296) → I1 leadingZeros641 x1 x2 x3 x10 v15' x2_2 v17 x1_2 ∧ M1 leadingZeros641 x1 x2 x3 x10 v15' x2_2 v17 x1_2 < M1 leadingZeros641 x1 x2 x3 x10 v15' v16' v17 v18))))) ∧ (¬ (v18 ≥ 4294967296) → (∃ (x1_2 : Int), x1_2 = (IntKind.wrap .u64 (v18 * x3)) ∧ (∃ (x2_2 : Int), x2_2 = (IntKind.wrap .u64 (4294967296 * v16')) ∧ (∃ (x3_2 : Int), x3_2 = (IntKind.wrap .u64 (x2_2 + x10)) ∧ ((x1_2 > x3_2 → (∃ (x4_2 : Int), x4_2 = (IntKind.wrap .u64 (v18 - 1)) ∧ (∃ (x5_2 : Int), x5_2 = (IntKind.wrap .u64 (v16' + x2)) ∧ ((x5_2 ≥ 4294967296 → (∃ (x6_2 : Int), x6_2 = (IntKind.wrap .u64 (v15' * 4294967296)) ∧ (∃ (x7_2 : Int), x7_2 = (IntKind.wrap .u64 (x6_2 + x4_2)) ∧ (∃ (x8_2 : Int), x8_2 = (IntKind.wrap .u64 (v17 * 4294967296)) ∧ (∃ (x9_2 : Int), x9_2 = (IntKind.wrap .u64 (x8_2 + x10)) ∧ (∃ (x10_1 : Int), x10_1 = (IntKind.wrap .u64 (x4_2 * x1)) ∧ (∃ (x11_1 : Int), x11_1 = (IntKind.wrap .u64 (x9_2 - x10_1)) ∧ (0 ≤ leadingZeros641) ∧ (∃ (x12_1 : Int), x12_1 = (shR .u64 x11_1 leadingZeros641) ∧ r0 = x7_2 ∧ r1 = x12_1)))))))) ∧ (¬ (x5_2 ≥ 4294967296) → I1 leadingZeros641 x1 x2 x3 x10 v15' x5_2 v17 x4_2 ∧ M1 leadingZeros641 x1 x2 x3 x10 v15' x5_2 v17 x4_2 < M1 leadingZeros641 x1 x2 x3 x10 v15' v16' v17 v18))))) ∧ (¬ (x1_2 > x3_2) → (∃ (x4_2 : Int), x4_2 = (IntKind.wrap .u64 (v15' * 4294967296)) ∧ (∃ (x5_2 : Int), x5_2 = (IntKind.wrap .u64 (x4_2 + v18)) ∧ (∃ (x6_2 : Int), x6_2 = (IntKind.wrap .u64 (v17 * 4294967296)) ∧ (∃ (x7_2 : Int), x7_2 = (IntKind.wrap .u64 (x6_2 + x10)) ∧ (∃ (x8_2 : Int), x8_2 = (IntKind.wrap .u64 (v18 * x1)) ∧ (∃ (x9_2 : Int), x9_2 = (IntKind.wrap .u64 (x7_2 - x8_2)) ∧ (0 ≤ leadingZeros641) ∧ (∃ (x10_1 : Int), x10_1 = (shR .u64 x9_2 leadingZeros641) ∧ r0 = x5_2 ∧ r1 = x10_1))))))))))))))
theorem math_bits_Div64_W1 (listappend : Int) (a : Int) (a2 : Int) (r0 : Int) (r1 : Int) (I0 : Int → Int → Int → Int → Int → Int → Int → Int → Int → Prop) (M0 : Int → Int → Int → Int → Int → Int → Int → Int → Int → Nat) (I1 : Int → Int → Int → Int → Int → Int → Int → Int → Int → Prop) (M1 : Int → Int → Int → Int → Int → Int → Int → Int → Int → Nat) (h0 : ∀ (leadingZeros641 : Int) (x1 : Int) (x2 : Int) (x3 : Int) (x7 : Int) (x9 : Int) (x10 : Int) (v15 : Int) (v16 : Int), I0 leadingZeros641 x1 x2 x3 x7 x9 x10 v15 v16 → math_bits_Div64_V0 listappend a a2 r0 r1 I0 M0 I1 M1 leadingZeros641 x1 x2 x3 x7 x9 x10 v15 v16) (h1 : ∀ (leadingZeros641 : Int) (x1 : Int) (x2 : Int) (x3 : Int) (x10 : Int) (v15' : Int) (v16' : Int) (v17 : Int) (v18 : Int), I1 leadingZeros641 x1 x2 x3 x10 v15' v16' v17 v18 → math_bits_Div64_V1 listappend a a2 r0 r1 I0 M0 I1 M1 leadingZeros641 x1 x2 x3 x10 v15' v16' v17 v18) (leadingZeros641 : Int) (x1 : Int) (x2 : Int) (x3 : Int) (x10 : Int) : ∀ (x : Int × Int × Int × Int), I1 leadingZeros641 x1 x2 x3 x10 x.1 x.2.1 x.2.2.1 x.2.2.2 → loopQ Tryd.prog XS Tryd.f25 1 (.tup [.sc (.int .u64 r0), .sc (.int .u64 r1)]) [] (math_bits_Div64_S1 listappend a a2 leadingZeros641 x1 x2 x3 x10 x.1 x.2.1 x.2.2.1 x.2.2.2) := by
  intro x0 hx0
  refine loop_rule (fun (x : Int × Int × Int × Int) => I1 leadingZeros641 x1 x2 x3 x10 x.1 x.2.1 x.2.2.1 x.2.2.2) (fun (x : Int × Int × Int × Int) => M1 leadingZeros641 x1 x2 x3 x10 x.1 x.2.1 x.2.2.1 x.2.2.2) (fun (x : Int × Int × Int × Int) => math_bits_Div64_S1 listappend a a2 leadingZeros641 x1 x2 x3 x10 x.1 x.2.1 x.2.2.1 x.2.2.2) x0 hx0 ?_
  rintro ⟨v15', v16', v17, v18⟩ hx
  have h := h1 leadingZeros641 x1 x2 x3 x10 v15' v16' v17 v18 hx
  clear hx hx0 x0
  by_cases c1 : v18 ≥ 4294967296
  · have h := h.1 c1
    obtain ⟨x1_2, c2, x2_2, c3, h⟩ := h
    have g_1 := (abt (dec_t c1))
    have e_2 := fun {o : Orc} {q : List Prop} (r : At o q) => (d11 g_1 (d11 g_1 (d11 g_1 (d11 g_1 (d11 g_1 (d11 g_1 (d11 g_1 (d11 g_1 (d11 g_1 (d11 abtt (d11 (oN c2 (osubw Tryd.prog 72 .u64 v18 1)) (d11 (oN c3 (oaddw Tryd.prog 72 .u64 v16' x2)) r))))))))))))
    by_cases c4 : x2_2 ≥ 4294967296
    · have h := h.1 c4
      obtain ⟨x3_2, c5, x4_2, c6, x5_2, c7, x6_2, c8, x7_2, c9, x8_2, c10, c11, x9_2, c12, h⟩ := h
      have g_3 := (abt (dec_t c4))
      rw [h.1, h.2]
      exact sr (ids := []) (vs := [.sc (.int .u64 x4_2), .sc (.int .u64 x9_2)]) (mem := []) (e_2 (d11 g_3 (d11 (oN c5 (omulw Tryd.prog 72 .u64 v15' 4294967296)) (d11 (oN c6 (oaddw Tryd.prog 72 .u64 x3_2 x1_2)) (d11 (oN c7 (omulw Tryd.prog 72 .u64 v17 4294967296)) (d11 (oN c8 (oaddw Tryd.prog 72 .u64 x5_2 x10)) (d11 (oN c9 (omulw Tryd.prog 72 .u64 x1_2 x1)) (d11 (oN c10 (osubw Tryd.prog 72 .u64 x6_2 x7_2)) (d11 (oN c12 (oshr Tryd.prog 72 .u64 .u64 x8_2 leadingZeros641 c11)) az))))))))) (by kernel_rfl) (by kernel_rfl) (rts_sc (rts_sc rfl))
    · have h := h.2 c4
      have g_4 := (abf (dec_f c4))
      exact sb (ts := [2, 8, 9, 10, 14, 15, 16, 17, 18]) (ids := []) (d := 0) (s0 := ⟨[(2, .sc (.int .u64 x1)), (8, .sc (.int .u64 leadingZeros641)), (9, .sc (.int .u64 x2)), (10, .sc (.int .u64 x3)), (14, .sc (.int .u64 x10)), (15, .sc (.int .u64 v15')), (16, .sc (.int .u64 x2_2)), (17, .sc (.int .u64 v17)), (18, .sc (.int .u64 x1_2))], [], 0⟩) (e_2 (d11 g_4 az)) (by kernel_rfl) (by kernel_rfl) rfl (v15', x2_2, v17, x1_2) h.1 h.2 (Weak.anew [] (by rfl) (wt_cons rfl wk_sc (wt_cons rfl wk_sc (wt_cons rfl wk_sc (wt_cons rfl wk_sc (wt_cons rfl wk_sc (wt_cons rfl wk_sc (wt_cons rfl wk_sc (wt_cons rfl wk_sc (wt_cons rfl wk_sc wt_nil))))))))) wm_nil)
  · have h := h.2 c1
    obtain ⟨x1_2, c2, x2_2, c3, x3_2, c4, h⟩ := h
    have g_5 := (abf (dec_f c1))
    have e_6 := fun {o : Orc} {q : List Prop} (r : At o q) => (d11 g_5 (d11 g_5 (d11 g_5 (d11 (oN c2 (omulw Tryd.prog 72 .u64 v18 x3)) (d11 g_5 (d11 g_5 (d11 (oN c3 (omulw Tryd.prog 72 .u64 4294967296 v16')) (d11 g_5 (d11 g_5 (d11 (oN c4 (oaddw Tryd.prog 72 .u64 x2_2 x10)) (d11 g_5 (d11 g_5 r))))))))))))
    by_cases c5 : x1_2 > x3_2
    · have h := h.1 c5
      obtain ⟨x4_2, c6, x5_2, c7, h⟩ := h
      have g_7 := (abt (dec_t c5))
      have e_8 := fun {o : Orc} {q : List Prop} (r : At o q) => (d11 g_7 (d11 (oN c6 (osubw Tryd.prog 72 .u64 v18 1)) (d11 (oN c7 (oaddw Tryd.prog 72 .u64 v16' x2)) r)))
      by_cases c8 : x5_2 ≥ 4294967296
      · have h := h.1 c8
        obtain ⟨x6_2, c9, x7_2, c10, x8_2, c11, x9_2, c12, x10_1, c13, x11_1, c14, c15, x12_1, c16, h⟩ := h
        have g_9 := (abt (dec_t c8))
        rw [h.1, h.2]
        exact sr (ids := []) (vs := [.sc (.int .u64 x7_2), .sc (.int .u64 x12_1)]) (mem := []) (e_6 (e_8 (d11 g_9 (d11 (oN c9 (omulw Tryd.prog 72 .u64 v15' 4294967296)) (d11 (oN c10 (oaddw Tryd.prog 72 .u64 x6_2 x4_2)) (d11 (oN c11 (omulw Tryd.prog 72 .u64 v17 4294967296)) (d11 (oN c12 (oaddw Tryd.prog 72 .u64 x8_2 x10)) (d11 (oN c13 (omulw Tryd.prog 72 .u64 x4_2 x1)) (d11 (oN c14 (osubw Tryd.prog 72 .u64 x9_2 x10_1)) (d11 (oN c16 (oshr Tryd.prog 72 .u64 .u64 x11_1 leadingZeros641 c15)) az)))))))))) (by kernel_rfl) (by kernel_rfl) (rts_sc (rts_sc rfl))
      · have h := h.2 c8
        have g_10 := (abf (dec_f c8))
        exact sb (ts := [2, 8, 9, 10, 14, 15, 16, 17, 18]) (ids := []) (d := 0) (s0 := ⟨[(2, .sc (.int .u64 x1)), (8, .sc (.int .u64 leadingZeros641)), (9, .sc (.int .u64 x2)), (10, .sc (.int .u64 x3)), (14, .sc (.int .u64 x10)), (15, .sc (.int .u64 v15')), (16, .sc (.int .u64 x5_2)), (17, .sc (.int .u64 v17)), (18, .sc (.int .u64 x4_2))], [], 0⟩) (e_6 (e_8 (d11 g_10 az))) (by kernel_rfl) (by kernel_rfl) rfl (v15', x5_2, v17, x4_2) h.1 h.2 (Weak.anew [] (by rfl) (wt_cons rfl wk_sc (wt_cons rfl wk_sc (wt_cons rfl wk_sc (wt_cons rfl wk_sc (wt_cons rfl wk_sc (wt_cons rfl wk_sc (wt_cons rfl wk_sc (wt_cons rfl wk_sc (wt_cons rfl wk_sc wt_nil))))))))) wm_nil)
    · have h := h.2 c5
      obtain ⟨x4_2, c6, x5_2, c7, x6_2, c8, x7_2, c9, x8_2, c10, x9_2, c11, c12, x10_1, c13, h⟩ := h
      have g_11 := (abf (dec_f c5))
      rw [h.1, h.2]
      exact sr (ids := []) (vs := [.sc (.int .u64 x5_2), .sc (.int .u64 x10_1)]) (mem := []) (e_6 (d11 g_11 (d11 (oN c6 (omulw Tryd.prog 72 .u64 v15' 4294967296)) (d11 (oN c7 (oaddw Tryd.prog 72 .u64 x4_2 v18)) (d11 (oN c8 (omulw Tryd.prog 72 .u64 v17 4294967296)) (d11 (oN c9 (oaddw Tryd.prog 72 .u64 x6_2 x10)) (d11 (oN c10 (omulw Tryd.prog 72 .u64 v18 x1)) (d11 (oN c11 (osubw Tryd.prog 72 .u64 x7_2 x8_2)) (d11 (oN c13 (oshr Tryd.prog 72 .u64 .u64 x9_2 leadingZeros641 c12)) az))))))))) (by kernel_rfl) (by kernel_rfl) (rts_sc (rts_sc rfl))
theorem math_bits_Div64_W0 (listappend : Int) (a : Int) (a2 : Int) (r0 : Int) (r1 : Int) (I0 : Int → Int → Int → Int → Int → Int → Int → Int → Int → Prop) (M0 : Int → Int → Int → Int → Int → Int → Int → Int → Int → Nat) (I1 : Int → Int → Int → Int → Int → Int → Int → Int → Int → Prop) (M1 : Int → Int → Int → Int → Int → Int → Int → Int → Int → Nat) (h0 : ∀ (leadingZeros641 : Int) (x1 : Int) (x2 : Int) (x3 : Int) (x7 : Int) (x9 : Int) (x10 : Int) (v15 : Int) (v16 : Int), I0 leadingZeros641 x1 x2 x3 x7 x9 x10 v15 v16 → math_bits_Div64_V0 listappend a a2 r0 r1 I0 M0 I1 M1 leadingZeros641 x1 x2 x3 x7 x9 x10 v15 v16) (h1 : ∀ (leadingZeros641 : Int) (x1 : Int) (x2 : Int) (x3 : Int) (x10 : Int) (v15' : Int) (v16' : Int) (v17 : Int) (v18 : Int), I1 leadingZeros641 x1 x2 x3 x10 v15' v16' v17 v18 → math_bits_Div64_V1 listappend a a2 r0 r1 I0 M0 I1 M1 leadingZeros641 x1 x2 x3 x10 v15' v16' v17 v18) (leadingZeros641 : Int) (x1 : Int) (x2 : Int) (x3 : Int) (x7 : Int) (x9 : Int) (x10 : Int) : ∀ (x : Int × Int), I0 leadingZeros641 x1 x2 x3 x7 x9 x10 x.1 x.2 → loopQ Tryd.prog XS Tryd.f25 0 (.tup [.sc (.int .u64 r0), .sc (.int .u64 r1)]) [] (math_bits_Div64_S0 listappend a a2 leadingZeros641 x1 x2 x3 x7 x9 x10 x.1 x.2) := by
  intro x0 hx0
  refine loop_rule (fun (x : Int × Int) => I0 leadingZeros641 x1 x2 x3 x7 x9 x10 x.1 x.2) (fun (x : Int × Int) => M0 leadingZeros641 x1 x2 x3 x7 x9 x10 x.1 x.2) (fun (x : Int × Int) => math_bits_Div64_S0 listappend a a2 leadingZeros641 x1 x2 x3 x7 x9 x10 x.1 x.2) x0 hx0 ?_
  rintro ⟨v15, v16⟩ hx
  have h := h0 leadingZeros641 x1 x2 x3 x7 x9 x10 v15 v16 hx
  clear hx hx0 x0
  by_cases c1 : v15 ≥ 4294967296
  · have h := h.1 c1
    obtain ⟨x1_1, c2, x2_1, c3, h⟩ := h
    have g_12 := (abt (dec_t c1))
    have e_13 := fun {o : Orc} {q : List Prop} (r : At o q) => (d11 g_12 (d11 g_12 (d11 g_12 (d11 g_12 (d11 g_12 (d11 g_12 (d11 g_12 (d11 g_12 (d11 g_12 (d11 abtt (d11 (oN c2 (osubw Tryd.prog 72 .u64 v15 1)) (d11 (oN c3 (oaddw Tryd.prog 72 .u64 v16 x2)) r))))))))))))
    by_cases c4 : x2_1 ≥ 4294967296
    · have h := h.1 c4
      obtain ⟨x3_1, c5, x4_1, c6, x5_1, c7, x6_1, c8, c9, c10, x7_1, c11, x8_1, c12, x9_1, c13, h⟩ := h
      have g_14 := (abt (dec_t c4))
      exact sl (ts := [2, 8, 9, 10, 14, 15, 16, 17, 18]) (ids := []) (d := 1) (s0 := ⟨[(2, .sc (.int .u64 x1)), (8, .sc (.int .u64 leadingZeros641)), (9, .sc (.int .u64 x2)), (10, .sc (.int .u64 x3)), (14, .sc (.int .u64 x10)), (15, .sc (.int .u64 x1_1)), (16, .sc (.int .u64 x9_1)), (17, .sc (.int .u64 x6_1)), (18, .sc (.int .u64 x7_1))], [], 0⟩) (e_13 (d11 g_14 (d11 (oN c5 (omulw Tryd.prog 72 .u64 x7 4294967296)) (d11 (oN c6 (oaddw Tryd.prog 72 .u64 x3_1 x9)) (d11 (oN c7 (omulw Tryd.prog 72 .u64 x1_1 x1)) (d11 (oN c8 (osubw Tryd.prog 72 .u64 x4_1 x5_1)) (d11 (oN c11 (oquo Tryd.prog 72 c9 (wu64 c10))) (d11 (oN c12 (omulw Tryd.prog 72 .u64 x7_1 x2)) (d11 (oN c13 (osubw Tryd.prog 72 .u64 x6_1 x8_1)) az))))))))) (by kernel_rfl) (by kernel_rfl) (Weak.anew [] (by rfl) (wt_cons rfl wk_sc (wt_cons rfl wk_sc (wt_cons rfl wk_sc (wt_cons rfl wk_sc (wt_cons rfl wk_sc (wt_cons rfl wk_sc (wt_cons rfl wk_sc (wt_cons rfl wk_sc (wt_cons rfl wk_sc wt_nil))))))))) wm_nil) (math_bits_Div64_W1 listappend a a2 r0 r1 I0 M0 I1 M1 h0 h1 leadingZeros641 x1 x2 x3 x10 (x1_1, x9_1, x6_1, x7_1) h)
    · have h := h.2 c4
      have g_15 := (abf (dec_f c4))
      exact sb (ts := [2, 8, 9, 10, 11, 13, 14, 15, 16]) (ids := []) (d := 0) (s0 := ⟨[(2, .sc (.int .u64 x1)), (8, .sc (.int .u64 leadingZeros641)), (9, .sc (.int .u64 x2)), (10, .sc (.int .u64 x3)), (11, .sc (.int .u64 x7)), (13, .sc (.int .u64 x9)), (14, .sc (.int .u64 x10)), (15, .sc (.int .u64 x1_1)), (16, .sc (.int .u64 x2_1))], [], 0⟩) (e_13 (d11 g_15 az)) (by kernel_rfl) (by kernel_rfl) rfl (x1_1, x2_1) h.1 h.2 (Weak.anew [] (by rfl) (wt_cons rfl wk_sc (wt_cons rfl wk_sc (wt_cons rfl wk_sc (wt_cons rfl wk_sc (wt_cons rfl wk_sc (wt_cons rfl wk_sc (wt_cons rfl wk_sc (wt_cons rfl wk_sc (wt_cons rfl wk_sc wt_nil))))))))) wm_nil)
  · have h := h.2 c1
    obtain ⟨x1_1, c2, x2_1, c3, x3_1, c4, h⟩ := h
    have g_16 := (abf (dec_f c1))
    have e_17 := fun {o : Orc} {q : List Prop} (r : At o q) => (d11 g_16 (d11 g_16 (d11 g_16 (d11 (oN c2 (omulw Tryd.prog 72 .u64 v15 x3)) (d11 g_16 (d11 g_16 (d11 (oN c3 (omulw Tryd.prog 72 .u64 4294967296 v16)) (d11 g_16 (d11 g_16 (d11 (oN c4 (oaddw Tryd.prog 72 .u64 x2_1 x9)) (d11 g_16 (d11 g_16 r))))))))))))
    by_cases c5 : x1_1 > x3_1
    · have h := h.1 c5
      obtain ⟨x4_1, c6, x5_1, c7, h⟩ := h
      have g_18 := (abt (dec_t c5))
      have e_19 := fun {o : Orc} {q : List Prop} (r : At o q) => (d11 g_18 (d11 (oN c6 (osubw Tryd.prog 72 .u64 v15 1)) (d11 (oN c7 (oaddw Tryd.prog 72 .u64 v16 x2)) r)))
      by_cases c8 : x5_1 ≥ 4294967296
      · have h := h.1 c8
        obtain ⟨x6_1, c9, x7_1, c10, x8_1, c11, x9_1, c12, c13, c14, x10_1, c15, x11_1, c16, x12_1, c17, h⟩ := h
        have g_20 := (abt (dec_t c8))
        exact sl (ts := [2, 8, 9, 10, 14, 15, 16, 17, 18]) (ids := []) (d := 1) (s0 := ⟨[(2, .sc (.int .u64 x1)), (8, .sc (.int .u64 leadingZeros641)), (9, .sc (.int .u64 x2)), (10, .sc (.int .u64 x3)), (14, .sc (.int .u64 x10)), (15, .sc (.int .u64 x4_1)), (16, .sc (.int .u64 x12_1)), (17, .sc (.int .u64 x9_1)), (18, .sc (.int .u64 x10_1))], [], 0⟩) (e_17 (e_19 (d11 g_20 (d11 (oN c9 (omulw Tryd.prog 72 .u64 x7 4294967296)) (d11 (oN c10 (oaddw Tryd.prog 72 .u64 x6_1 x9)) (d11 (oN c11 (omulw Tryd.prog 72 .u64 x4_1 x1)) (d11 (oN c12 (osubw Tryd.prog 72 .u64 x7_1 x8_1)) (d11 (oN c15 (oquo Tryd.prog 72 c13 (wu64 c14))) (d11 (oN c16 (omulw Tryd.prog 72 .u64 x10_1 x2)) (d11 (oN c17 (osubw Tryd.prog 72 .u64 x9_1 x11_1)) az)))))))))) (by kernel_rfl) (by kernel_rfl) (Weak.anew [] (by rfl) (wt_cons rfl wk_sc (wt_cons rfl wk_sc (wt_cons rfl wk_sc (wt_cons rfl wk_sc (wt_cons rfl wk_sc (wt_cons rfl wk_sc (wt_cons rfl wk_sc (wt_cons rfl wk_sc (wt_cons rfl wk_sc wt_nil))))))))) wm_nil) (math_bits_Div64_W1 listappend a a2 r0 r1 I0 M0 I1 M1 h0 h1 leadingZeros641 x1 x2 x3 x10 (x4_1, x12_1, x9_1, x10_1) h)
      · have h := h.2 c8
        have g_21 := (abf (dec_f c8))
        exact sb (ts := [2, 8, 9, 10, 11, 13, 14, 15, 16]) (ids := []) (d := 0) (s0 := ⟨[(2, .sc (.int .u64 x1)), (8, .sc (.int .u64 leadingZeros641)), (9, .sc (.int .u64 x2)), (10, .sc (.int .u64 x3)), (11, .sc (.int .u64 x7)), (13, .sc (.int .u64 x9)), (14, .sc (.int .u64 x10)), (15, .sc (.int .u64 x4_1)), (16, .sc (.int .u64 x5_1))], [], 0⟩) (e_17 (e_19 (d11 g_21 az))) (by kernel_rfl) (by kernel_rfl) rfl (x4_1, x5_1) h.1 h.2 (Weak.anew [] (by rfl) (wt_cons rfl wk_sc (wt_cons rfl wk_sc (wt_cons rfl wk_sc (wt_cons rfl wk_sc (wt_cons rfl wk_sc (wt_cons rfl wk_sc (wt_cons rfl wk_sc (wt_cons rfl wk_sc (wt_cons rfl wk_sc wt_nil))))))))) wm_nil)
    · have h := h.2 c5
      obtain ⟨x4_1, c6, x5_1, c7, x6_1, c8, x7_1, c9, c10, c11, x8_1, c12, x9_1, c13, x10_1, c14, h⟩ := h
      have g_22 := (abf (dec_f c5))
      exact sl (ts := [2, 8, 9, 10, 14, 15, 16, 17, 18]) (ids := []) (d := 1) (s0 := ⟨[(2, .sc (.int .u64 x1)), (8, .sc (.int .u64 leadingZeros641)), (9, .sc (.int .u64 x2)), (10, .sc (.int .u64 x3)), (14, .sc (.int .u64 x10)), (15, .sc (.int .u64 v15)), (16, .sc (.int .u64 x10_1)), (17, .sc (.int .u64 x7_1)), (18, .sc (.int .u64 x8_1))], [], 0⟩) (e_17 (d11 g_22 (d11 (oN c6 (omulw Tryd.prog 72 .u64 x7 4294967296)) (d11 (oN c7 (oaddw Tryd.prog 72 .u64 x4_1 x9)) (d11 (oN c8 (omulw Tryd.prog 72 .u64 v15 x1)) (d11 (oN c9 (osubw Tryd.prog 72 .u64 x5_1 x6_1)) (d11 (oN c12 (oquo Tryd.prog 72 c10 (wu64 c11))) (d11 (oN c13 (omulw Tryd.prog 72 .u64 x8_1 x2)) (d11 (oN c14 (osubw Tryd.prog 72 .u64 x7_1 x9_1)) az))))))))) (by kernel_rfl) (by kernel_rfl) (Weak.anew [] (by rfl) (wt_cons rfl wk_sc (wt_cons rfl wk_sc (wt_cons rfl wk_sc (wt_cons rfl wk_sc (wt_cons rfl wk_sc (wt_cons rfl wk_sc (wt_cons rfl wk_sc (wt_cons rfl wk_sc (wt_cons rfl wk_sc wt_nil))))))))) wm_nil) (math_bits_Div64_W1 listappend a a2 r0 r1 I0 M0 I1 M1 h0 h1 leadingZeros641 x1 x2 x3 x10 (v15, x10_1, x7_1, x8_1) h)
theorem math_bits_Div64_W (listappend : Int) (a : Int) (a2 : Int) (r0 : Int) (r1 : Int) (I0 : Int → Int → Int → Int → Int → Int → Int → Int → Int → Prop) (M0 : Int → Int → Int → Int → Int → Int → Int → Int → Int → Nat) (I1 : Int → Int → Int → Int → Int → Int → Int → Int → Int → Prop) (M1 : Int → Int → Int → Int → Int → Int → Int → Int → Int → Nat) (h : math_bits_Div64_V listappend a a2 r0 r1 I0 M0 I1 M1) (h0 : ∀ (leadingZeros641 : Int) (x1 : Int) (x2 : Int) (x3 : Int) (x7 : Int) (x9 : Int) (x10 : Int) (v15 : Int) (v16 : Int), I0 leadingZeros641 x1 x2 x3 x7 x9 x10 v15 v16 → math_bits_Div64_V0 listappend a a2 r0 r1 I0 M0 I1 M1 leadingZeros641 x1 x2 x3 x7 x9 x10 v15 v16) (h1 : ∀ (leadingZeros641 : Int) (x1 : Int) (x2 : Int) (x3 : Int) (x10 : Int) (v15' : Int) (v16' : Int) (v17 : Int) (v18 : Int), I1 leadingZeros641 x1 x2 x3 x10 v15' v16' v17 v18 → math_bits_Div64_V1 listappend a a2 r0 r1 I0 M0 I1 M1 leadingZeros641 x1 x2 x3 x10 v15' v16' v17 v18) : Ret Tryd.prog XS 25 [.sc (.int .u64 listappend), .sc (.int .u64 a), .sc (.int .u64 a2)] (.tup [.sc (.int .u64 r0), .sc (.int .u64 r1)]) := by
  refine fn_rule Tryd.func25 (by kernel_rfl) (by kernel_rfl) (by kernel_rfl) (by kernel_rfl) ?_
  by_cases c1 : a2 = 0
  · have h := h.1 c1
    exact h.elim
  · have h := h.2 c1
    have e_23 := fun {o : Orc} {q : List Prop} (r : At o q) => (d11 (abf (beq_f c1)) r)
    by_cases c2 : a2 ≤ listappend
    · have h := h.1 c2
      exact h.elim
    · have h := h.2 c2
      have e_24 := fun {o : Orc} {q : List Prop} (r : At o q) => (d11 (abf (dec_f c2)) r)
      by_cases c3 : listappend = 0
      · have h := h.1 c3
        obtain ⟨c4, c5, x1, c6, x2, c7, h⟩ := h
        rw [h.1, h.2]
        exact sr (ids := []) (vs := [.sc (.int .u64 x1), .sc (.int .u64 x2)]) (mem := []) (e_23 (e_24 (d11 (abt (beq_t c3)) (d11 (oN c6 (oquo Tryd.prog 72 c4 (wu64 c5))) (d11 (oN c7 (orem Tryd.prog 72 .u64 a a2 c4)) az))))) (by kernel_rfl) (by kernel_rfl) (rts_sc (rts_sc rfl))
      · have h := h.2 c3
        obtain ⟨leadingZeros641, c4, c5, c6, x1, c7, x2, c8, x3, c9, x4, c10, x5, c11, c12, x6, c13, x7, c14, x8, c15, x9, c16, x10, c17, c18, c19, x11, c20, x12, c21, x13, c22, h⟩ := h
        exact sl (ts := [2, 8, 9, 10, 11, 13, 14, 15, 16]) (ids := []) (d := 0) (s0 := ⟨[(2, .sc (.int .u64 x1)), (8, .sc (.int .u64 leadingZeros641)), (9, .sc (.int .u64 x2)), (10, .sc (.int .u64 x3)), (11, .sc (.int .u64 x7)), (13, .sc (.int .u64 x9)), (14, .sc (.int .u64 x10)), (15, .sc (.int .u64 x11)), (16, .sc (.int .u64 x13))], [], 0⟩) (e_23 (e_24 (d11 (abf (beq_f c3)) (d11 (ocs c4) (d11 (oconv Tryd.prog 3 90 .i64 .u64 (by kernel_rfl) (by kernel_rfl) (wu64 c5)) (d11 (oN c7 (oshlw Tryd.prog 72 .u64 .u64 a2 leadingZeros641 c6)) (d11 (oN c8 (oshr Tryd.prog 72 .u64 .u64 x1 32 (by decide))) (d11 (oN c9 (obAnd Tryd.prog 72 .u64 x1 4294967295)) (d11 (oN c10 (oshlw Tryd.prog 72 .u64 .u64 listappend leadingZeros641 c6)) (d11 (oN c11 (osubw Tryd.prog 90 .u64 64 leadingZeros641)) (d11 (oN c13 (oshr Tryd.prog 72 .u64 .u64 a x5 c12)) (d11 (oN c14 (obOr Tryd.prog 72 .u64 x4 x6)) (d11 (oN c15 (oshlw Tryd.prog 72 .u64 .u64 a leadingZeros641 c6)) (d11 (oN c16 (oshr Tryd.prog 72 .u64 .u64 x8 32 (by decide))) (d11 (oN c17 (obAnd Tryd.prog 72 .u64 x8 4294967295)) (d11 (oN c20 (oquo Tryd.prog 72 c18 (wu64 c19))) (d11 (oN c21 (omulw Tryd.prog 72 .u64 x11 x2)) (d11 (oN c22 (osubw Tryd.prog 72 .u64 x7 x12)) az)))))))))))))))))) (by kernel_rfl) (by kernel_rfl) (Weak.anew [] (by rfl) (wt_cons rfl wk_sc (wt_cons rfl wk_sc (wt_cons rfl wk_sc (wt_cons rfl wk_sc (wt_cons rfl wk_sc (wt_cons rfl wk_sc (wt_cons rfl wk_sc (wt_cons rfl wk_sc (wt_cons rfl wk_sc wt_nil))))))))) wm_nil) (math_bits_Div64_W0 listappend a a2 r0 r1 I0 M0 I1 M1 h0 h1 leadingZeros641 x1 x2 x3 x7 x9 x10 (x11, x13) h)

-- math/bits.LeadingZeros64
abbrev math_bits_LeadingZeros64_V (x : Int) (r0 : Int) : Prop := (∃ (len641 : Int), Ret Tryd.prog XS 47 [.sc (.int .u64 x)] (int len641) ∧ (InR (64 - len641)) ∧ r0 = (64 - len641))
theorem math_bits_LeadingZeros64_W (x : Int) (r0 : Int) (h : math_bits_LeadingZeros64_V x r0) : Ret Tryd.prog XS 39 [.sc (.int .u64 x)] (int r0) := by
  refine fn_rule Tryd.func39 (by kernel_rfl) (by kernel_rfl) (by kernel_rfl) (by kernel_rfl) ?_
  obtain ⟨len641, c1, c2, h⟩ := h
  rw [h]
  exact sr (ids := []) (vs := [int (64 - len641)]) (mem := []) (d11 (ocs c1) (d11 (osub Tryd.prog 3 (wi64 c2)) az)) (by kernel_rfl) (by kernel_rfl) (rts_sc rfl)

end Go.Ab
end

section
namespace Go.Ab
open Go.Proofs
set_option maxRecDepth 1000000
set_option linter.unusedVariables false
attribute [local irreducible] todoQ
-- math/bits.Len64
def math_bits_Len64_s0 : ByteArray := ({ data := (List.toArray (List.append (List.append [0, 1, 2, 2, 3, 3, 3, 3, 4, 4, 4, 4, 4, 4, 4, 4, 5, 5, 5, 5, 5, 5, 5, 5, 5, 5, 5, 5, 5, 5, 5, 5, 6, 6, 6, 6, 6, 6, 6, 6, 6, 6, 6, 6, 6, 6, 6, 6, 6, 6, 6, 6, 6, 6, 6, 6, 6, 6, 6, 6, 6, 6, 6, 6] [7, 7, 7, 7, 7, 7, 7, 7, 7, 7, 7, 7, 7, 7, 7, 7, 7, 7, 7, 7, 7, 7, 7, 7, 7, 7, 7, 7, 7, 7, 7, 7, 7, 7, 7, 7, 7, 7, 7, 7, 7, 7, 7, 7, 7, 7, 7, 7, 7, 7, 7, 7, 7, 7, 7, 7, 7, 7, 7, 7, 7, 7, 7, 7]) (List.append [8, 8, 8, 8, 8, 8, 8, 8, 8, 8, 8, 8, 8, 8, 8, 8, 8, 8, 8, 8, 8, 8, 8, 8, 8, 8, 8, 8, 8, 8, 8, 8, 8, 8, 8, 8, 8, 8, 8, 8, 8, 8, 8, 8, 8, 8, 8, 8, 8, 8, 8, 8, 8, 8, 8, 8, 8, 8, 8, 8, 8, 8, 8, 8] [8, 8, 8, 8, 8, 8, 8, 8, 8, 8, 8, 8, 8, 8, 8, 8, 8, 8, 8, 8, 8, 8, 8, 8, 8, 8, 8, 8, 8, 8, 8, 8, 8, 8, 8, 8, 8, 8, 8, 8, 8, 8, 8, 8, 8, 8, 8, 8, 8, 8, 8, 8, 8, 8, 8, 8, 8, 8, 8, 8, 8, 8, 8, 8]))) } : ByteArray)
abbrev math_bits_Len64_V (x : Int) (r0 : Int) : Prop := ((x ≥ 4294967296 → (∃ (x1 : Int), x1 = (shR .u64 x 32) ∧ ((x1 ≥ 65536 → (∃ (x2 : Int), x2 = (shR .u64 x1 16) ∧ ((x2 ≥ 256 → (∃ (x3 : Int), x3 = (shR .u64 x2 8) ∧ (InU8 x3) ∧ (Idx x3 math_bits_Len64_s0.size) ∧ (∃ (x4 : Int), x4 = (bt math_bits_Len64_s0 x3) ∧ (InR x4) ∧ (∃ (x5 : Int), x5 = (IntKind.wrap .i64 (56 + x4)) ∧ r0 = x5)))) ∧ (¬ (x2 ≥ 256) → (InU8 x2) ∧ (Idx x2 math_bits_Len64_s0.size) ∧ (∃ (x3 : Int), x3 = (bt math_bits_Len64_s0 x2) ∧ (InR x3) ∧ (∃ (x4 : Int), x4 = (IntKind.wrap .i64 (48 + x3)) ∧ r0 = x4)))))) ∧ (¬ (x1 ≥ 65536) → ((x1 ≥ 256 → (∃ (x2 : Int), x2 = (shR .u64 x1 8) ∧ (InU8 x2) ∧ (Idx x2 math_bits_Len64_s0.size) ∧ (∃ (x3 : Int), x3 = (bt math_bits_Len64_s0 x2) ∧ (InR x3) ∧ (∃ (x4 : Int), x4 = (IntKind.wrap .i64 (40 + x3)) ∧ r0 = x4)))) ∧ (¬ (x1 ≥ 256) → (InU8 x1) ∧ (Idx x1 math_bits_Len64_s0.size) ∧ (∃ (x2 : Int), x2 = (bt math_bits_Len64_s0 x1) ∧ (InR x2) ∧ (∃ (x3 : Int), x3 = (IntKind.wrap .i64 (32 + x2)) ∧ r0 = x3)))))))) ∧ (¬ (x ≥ 4294967296) → ((x ≥ 65536 → (∃ (x1 : Int), x1 = (shR .u64 x 16) ∧ ((x1 ≥ 256 → (∃ (x2 : Int), x2 = (shR .u64 x1 8) ∧ (InU8 x2) ∧ (Idx x2 math_bits_Len64_s0.size) ∧ (∃ (x3 : Int), x3 = (bt math_bits_Len64_s0 x2) ∧ (InR x3) ∧ (∃ (x4 : Int), x4 = (IntKind.wrap .i64 (24 + x3)) ∧ r0 = x4)))) ∧ (¬ (x1 ≥ 256) → (InU8 x1) ∧ (Idx x1 math_bits_Len64_s0.size) ∧ (∃ (x2 : Int), x2 = (bt math_bits_Len64_s0 x1) ∧ (InR x2) ∧ (∃ (x3 : Int), x3 = (IntKind.wrap .i64 (16 + x2)) ∧ r0 = x3)))))) ∧ (¬ (x ≥ 65536) → ((x ≥ 256 → (∃ (x1 : Int), x1 = (shR .u64 x 8) ∧ (InU8 x1) ∧ (Idx x1 math_bits_Len64_s0.size) ∧ (∃ (x2 : Int), x2 = (bt math_bits_Len64_s0 x1) ∧ (InR x2) ∧ (∃ (x3 : Int), x3 = (IntKind.wrap .i64 (8 + x2)) ∧ r0 = x3)))) ∧ (¬ (x ≥ 256) → (InU8 x) ∧ (Idx x math_bits_Len64_s0.size) ∧ (∃ (x1 : Int), x1 = (bt math_bits_Len64_s0 x) ∧ (InR x1) ∧ (∃ (x2 : Int), x2 = (IntKind.wrap .i64 (0 + x1)) ∧ r0 = x2))))))))
theorem math_bits_Len64_W (x : Int) (r0 : Int) (h : math_bits_Len64_V x r0) : Ret Tryd.prog XS 47 [.sc (.int .u64 x)] (int r0) := by
  refine fn_rule Tryd.func47 (by kernel_rfl) (by kernel_rfl) (by kernel_rfl) (by kernel_rfl) ?_
  by_cases c1 : x ≥ 4294967296
  · have h := h.1 c1
    obtain ⟨x1, c2, h⟩ := h
    have e_1 := fun {o : Orc} {q : List Prop} (r : At o q) => (d11 (abt (dec_t c1)) (d11 (oN c2 (oshr Tryd.prog 72 .u64 .u64 x 32 (by decide))) r))
    by_cases c3 : x1 ≥ 65536
    · have h := h.1 c3
      obtain ⟨x2, c4, h⟩ := h
      have g_2 := (abt (dec_t c3))
      have e_3 := fun {o : Orc} {q : List Prop} (r : At o q) => (d11 g_2 (d11 (oN c4 (oshr Tryd.prog 72 .u64 .u64 x1 16 (by decide))) (d11 (At.mk (allc (by rfl) alln) : At [.val (int 48)] [bin Tryd.prog .add 3 (int 32) (int 16) = some (int 48)]) r)))
      by_cases c5 : x2 ≥ 256
      · have h := h.1 c5
        obtain ⟨x3, c6, c7, c8, x4, c9, c10, x5, c11, h⟩ := h
        rw [h]
        exact sr (ids := []) (vs := [int x5]) (mem := []) (e_1 (e_3 (d11 (abt (dec_t c5)) (d11 (oN c6 (oshr Tryd.prog 72 .u64 .u64 x2 8 (by decide))) (d11 (At.mk (allc (by rfl) alln) : At [.val (int 56)] [bin Tryd.prog .add 3 (int 48) (int 8) = some (int 56)]) (d11 (oconv Tryd.prog 72 5 .u64 .u8 (by kernel_rfl) (by kernel_rfl) (wu8 c7)) (d11 (oNb (s := math_bits_Len64_s0) c9 c8) (d11 (oconv Tryd.prog 5 3 .u8 .i64 (by kernel_rfl) (by kernel_rfl) (wi64 c10)) (d11 (oN c11 (oaddw Tryd.prog 3 .i64 56 x4)) az))))))))) (by kernel_rfl) (by kernel_rfl) (rts_sc rfl)
      · have h := h.2 c5
        obtain ⟨c6, c7, x3, c8, c9, x4, c10, h⟩ := h
        have g_4 := (oconv Tryd.prog 72 5 .u64 .u8 (by kernel_rfl) (by kernel_rfl) (wu8 c6))
        have g_5 := (oNb (s := math_bits_Len64_s0) c8 c7)
        have g_6 := (oconv Tryd.prog 5 3 .u8 .i64 (by kernel_rfl) (by kernel_rfl) (wi64 c9))
        rw [h]
        exact sr (ids := []) (vs := [int x4]) (mem := []) (e_1 (e_3 (d11 (abf (dec_f c5)) (d11 g_4 (d11 g_5 (d11 g_6 (d11 (oN c10 (oaddw Tryd.prog 3 .i64 48 x3)) az))))))) (by kernel_rfl) (by kernel_rfl) (rts_sc rfl)
    · have h := h.2 c3
      have g_7 := (abf (dec_f c3))
      by_cases c4 : x1 ≥ 256
      · have h := h.1 c4
        obtain ⟨x2, c5, c6, c7, x3, c8, c9, x4, c10, h⟩ := h
        have g_8 := (abt (dec_t c4))
        have g_9 := (oN c5 (oshr Tryd.prog 72 .u64 .u64 x1 8 (by decide)))
        have g_10 := (oconv Tryd.prog 72 5 .u64 .u8 (by kernel_rfl) (by kernel_rfl) (wu8 c6))
        have g_11 := (oNb (s := math_bits_Len64_s0) c8 c7)
        have g_12 := (oconv Tryd.prog 5 3 .u8 .i64 (by kernel_rfl) (by kernel_rfl) (wi64 c9))
        rw [h]
        exact sr (ids := []) (vs := [int x4]) (mem := []) (e_1 (d11 g_7 (d11 g_8 (d11 g_9 (d11 (At.mk (allc (by rfl) alln) : At [.val (int 40)] [bin Tryd.prog .add 3 (int 32) (int 8) = some (int 40)]) (d11 g_10 (d11 g_11 (d11 g_12 (d11 (oN c10 (oaddw Tryd.prog 3 .i64 40 x3)) az))))))))) (by kernel_rfl) (by kernel_rfl) (rts_sc rfl)
      · have h := h.2 c4
        obtain ⟨c5, c6, x2, c7, c8, x3, c9, h⟩ := h
        have g_13 := (abf (dec_f c4))
        have g_14 := (oconv Tryd.prog 72 5 .u64 .u8 (by kernel_rfl) (by kernel_rfl) (wu8 c5))
        have g_15 := (oNb (s := math_bits_Len64_s0) c7 c6)
        have g_16 := (oconv Tryd.prog 5 3 .u8 .i64 (by kernel_rfl) (by kernel_rfl) (wi64 c8))
        rw [h]
        exact sr (ids := []) (vs := [int x3]) (mem := []) (e_1 (d11 g_7 (d11 g_13 (d11 g_14 (d11 g_15 (d11 g_16 (d11 (oN c9 (oaddw Tryd.prog 3 .i64 32 x2)) az))))))) (by kernel_rfl) (by kernel_rfl) (rts_sc rfl)
  · have h := h.2 c1
    have e_17 := fun {o : Orc} {q : List Prop} (r : At o q) => (d11 (abf (dec_f c1)) r)
    by_cases c2 : x ≥ 65536
    · have h := h.1 c2
      obtain ⟨x1, c3, h⟩ := h
      have e_18 := fun {o : Orc} {q : List Prop} (r : At o q) => (d11 (abt (dec_t c2)) (d11 (oN c3 (oshr Tryd.prog 72 .u64 .u64 x 16 (by decide))) (d11 (At.mk (allc (by rfl) alln) : At [.val (int 16)] [bin Tryd.prog .add 3 (int 0) (int 16) = some (int 16)]) r)))
      by_cases c4 : x1 ≥ 256
      · have h := h.1 c4
        obtain ⟨x2, c5, c6, c7, x3, c8, c9, x4, c10, h⟩ := h
        have g_19 := (abt (dec_t c4))
        have g_20 := (oN c5 (oshr Tryd.prog 72 .u64 .u64 x1 8 (by decide)))
        have g_21 := (oconv Tryd.prog 72 5 .u64 .u8 (by kernel_rfl) (by kernel_rfl) (wu8 c6))
        have g_22 := (oNb (s := math_bits_Len64_s0) c8 c7)
        have g_23 := (oconv Tryd.prog 5 3 .u8 .i64 (by kernel_rfl) (by kernel_rfl) (wi64 c9))
        rw [h]
        exact sr (ids := []) (vs := [int x4]) (mem := []) (e_17 (e_18 (d11 g_19 (d11 g_20 (d11 (At.mk (allc (by rfl) alln) : At [.val (int 24)] [bin Tryd.prog .add 3 (int 16) (int 8) = some (int 24)]) (d11 g_21 (d11 g_22 (d11 g_23 (d11 (oN c10 (oaddw Tryd.prog 3 .i64 24 x3)) az))))))))) (by kernel_rfl) (by kernel_rfl) (rts_sc rfl)
      · have h := h.2 c4
        obtain ⟨c5, c6, x2, c7, c8, x3, c9, h⟩ := h
        have g_24 := (abf (dec_f c4))
        have g_25 := (oconv Tryd.prog 72 5 .u64 .u8 (by kernel_rfl) (by kernel_rfl) (wu8 c5))
        have g_26 := (oNb (s := math_bits_Len64_s0) c7 c6)
        have g_27 := (oconv Tryd.prog 5 3 .u8 .i64 (by kernel_rfl) (by kernel_rfl) (wi64 c8))
        rw [h]
        exact sr (ids := []) (vs := [int x3]) (mem := []) (e_17 (e_18 (d11 g_24 (d11 g_25 (d11 g_26 (d11 g_27 (d11 (oN c9 (oaddw Tryd.prog 3 .i64 16 x2)) az))))))) (by kernel_rfl) (by kernel_rfl) (rts_sc rfl)
    · have h := h.2 c2
      have e_28 := fun {o : Orc} {q : List Prop} (r : At o q) => (d11 (abf (dec_f c2)) r)
      by_cases c3 : x ≥ 256
      · have h := h.1 c3
        obtain ⟨x1, c4, c5, c6, x2, c7, c8, x3, c9, h⟩ := h
        have g_29 := (abt (dec_t c3))
        have g_30 := (oconv Tryd.prog 72 5 .u64 .u8 (by kernel_rfl) (by kernel_rfl) (wu8 c5))
        have g_31 := (oNb (s := math_bits_Len64_s0) c7 c6)
        have g_32 := (oconv Tryd.prog 5 3 .u8 .i64 (by kernel_rfl) (by kernel_rfl) (wi64 c8))
        rw [h]
        exact sr (ids := []) (vs := [int x3]) (mem := []) (e_17 (e_28 (d11 g_29 (d11 (oN c4 (oshr Tryd.prog 72 .u64 .u64 x 8 (by decide))) (d11 (At.mk (allc (by rfl) alln) : At [.val (int 8)] [bin Tryd.prog .add 3 (int 0) (int 8) = some (int 8)]) (d11 g_30 (d11 g_31 (d11 g_32 (d11 (oN c9 (oaddw Tryd.prog 3 .i64 8 x2)) az))))))))) (by kernel_rfl) (by kernel_rfl) (rts_sc rfl)
      · have h := h.2 c3
        obtain ⟨c4, c5, x1, c6, c7, x2, c8, h⟩ := h
        have g_33 := (abf (dec_f c3))
        rw [h]
        exact sr (ids := []) (vs := [int x2]) (mem := []) (e_17 (e_28 (d11 g_33 (d11 (oconv Tryd.prog 72 5 .u64 .u8 (by kernel_rfl) (by kernel_rfl) (wu8 c4)) (d11 (oNb (s := math_bits_Len64_s0) c6 c5) (d11 (oconv Tryd.prog 5 3 .u8 .i64 (by kernel_rfl) (by kernel_rfl) (wi64 c7)) (d11 (oN c8 (oaddw Tryd.prog 3 .i64 0 x1)) az))))))) (by kernel_rfl) (by kernel_rfl) (rts_sc rfl)

-- garmentref22.Partner
-- garmentref22.share
end Go.Ab
end
