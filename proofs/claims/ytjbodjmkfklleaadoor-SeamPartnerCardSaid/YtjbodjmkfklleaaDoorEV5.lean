/- The law SeamPartner. -/
import Derived.Test.YtjbodjmkfklleaaDoorEV4
import Derived.Test.YtjbodjmkfklleaaDoorELPartnerW
set_option linter.unusedVariables false
set_option linter.unusedSimpArgs false
set_option linter.unusedSectionVars false

namespace Go.Ab
open Go.Proofs
set_option maxRecDepth 10000
set_option linter.unusedVariables false

theorem par_at {f t a : Int} (h1 : 1 ≤ f) (h2 : f ≤ 1073741824) (h3 : 0 ≤ t) (h4 : t < 1073741824) (h5 : 0 ≤ a) (h6 : a ≤ f) : ¬ parBad f t a ∧ parV f t false a = parQ f t a ∧ parV f t true a = t - parQ f t a ∧ parE f t a = 0 := by
  have hb : ¬ parBad f t a := by unfold parBad; omega
  exact ⟨hb, by rw [parV, if_neg hb]; rfl, by rw [parV, if_neg hb]; rfl, if_neg hb⟩
theorem parQ_zero {f t : Int} (h1 : 1 ≤ f) : parQ f t 0 = 0 := by
  unfold parQ
  rw [Int.zero_mul, Int.zero_emod, Int.zero_ediv, if_neg (by omega)]
theorem parQ_end {f t : Int} (h1 : 1 ≤ f) : parQ f t f = t := by
  unfold parQ
  rw [Int.mul_emod_right, if_neg (by omega), Int.mul_ediv_cancel_left _ (by omega)]
theorem parQ_near {f t a : Int} (h1 : 1 ≤ f) : 2 * (parQ f t a * f - a * t) ≤ f ∧ 2 * (a * t - parQ f t a * f) ≤ f := by
  have e := Int.mul_ediv_add_emod (a * t) f
  have m0 := Int.emod_nonneg (a * t) (show f ≠ 0 by omega)
  have m1 := Int.emod_lt_of_pos (a * t) (show 0 < f by omega)
  unfold parQ
  split
  · rw [Int.add_mul, Int.one_mul, Int.mul_comm (a * t / f)]; omega
  · rw [Int.mul_comm (a * t / f)]; omega
theorem parQ_mono {f t a : Int} (h1 : 1 ≤ f) (h3 : 0 ≤ t) : parQ f t a ≤ parQ f t (a + 1) := by
  have n1 := parQ_near (t := t) (a := a) h1
  have n2 := parQ_near (t := t) (a := a + 1) h1
  have e := Int.mul_ediv_add_emod (a * t) f
  have m0 := Int.emod_nonneg (a * t) (show f ≠ 0 by omega)
  have m1 := Int.emod_lt_of_pos (a * t) (show 0 < f by omega)
  have e' := Int.mul_ediv_add_emod ((a + 1) * t) f
  have m0' := Int.emod_nonneg ((a + 1) * t) (show f ≠ 0 by omega)
  have m1' := Int.emod_lt_of_pos ((a + 1) * t) (show 0 < f by omega)
  have le : a * t ≤ (a + 1) * t := Int.mul_le_mul_of_nonneg_right (by omega) h3
  have dl : a * t / f ≤ (a + 1) * t / f := Int.ediv_le_ediv (by omega) le
  unfold parQ
  by_cases hq : a * t / f = (a + 1) * t / f
  · rw [hq] at e ⊢
    split <;> split <;> omega
  · split <;> split <;> omega
theorem prod_range {x y : Int} (h1 : 0 ≤ x) (h2 : x ≤ 1073741824) (h3 : 0 ≤ y) (h4 : y ≤ 1073741824) : 0 ≤ x * y ∧ x * y ≤ 1152921504606846976 := ⟨Int.mul_nonneg h1 h3, Int.mul_le_mul h2 h4 h3 (by decide)⟩
theorem law_partner (x y z : Int) (hx : InU32 x) (hy : InU32 y) (hz : InU32 z) : Ret Tryd.prog XS 5 [.sc (.int .u32 x), .sc (.int .u32 y), .sc (.int .u32 z)] (boo true) := by
  have ex : x.tmod 1073741824 = x % 1073741824 := Int.tmod_eq_emod_of_nonneg hx.1
  have ey : y.tmod 1073741824 = y % 1073741824 := Int.tmod_eq_emod_of_nonneg hy.1
  have ez : z.tmod (1 + x % 1073741824 + 1) = z % (1 + x % 1073741824 + 1) := Int.tmod_eq_emod_of_nonneg hz.1
  refine garmentlaw22_SeamPartner_W x y z true ?_
  unfold garmentlaw22_SeamPartner_V
  rw [ex, ey, ez]
  have f1 : 1 ≤ 1 + x % 1073741824 ∧ 1 + x % 1073741824 ≤ 1073741824 := by omega
  have t1 : 0 ≤ y % 1073741824 ∧ y % 1073741824 < 1073741824 := by omega
  have a1 : 0 ≤ z % (1 + x % 1073741824 + 1) ∧ z % (1 + x % 1073741824 + 1) < 1 + x % 1073741824 + 1 := ⟨Int.emod_nonneg _ (by omega), Int.emod_lt_of_pos _ (by omega)⟩
  generalize 1 + x % 1073741824 = f at *
  generalize y % 1073741824 = t at *
  generalize z % (f + 1) = a at *
  obtain ⟨b1, v1, w1, e1⟩ := par_at f1.1 f1.2 t1.1 t1.2 a1.1 (by omega)
  obtain ⟨b2, v2, w2, e2⟩ := par_at f1.1 f1.2 t1.1 t1.2 (a := 0) (by omega) (by omega)
  obtain ⟨b3, v3, w3, e3⟩ := par_at f1.1 f1.2 t1.1 t1.2 (a := f) (by omega) (by omega)
  have q := parQ_range b1
  have near := parQ_near (t := t) (a := a) f1.1
  have p1 := prod_range (x := parQ f t a) (y := f) (by omega) (by omega) (by omega) (by omega)
  have p2 := prod_range (x := a) (y := t) (by omega) (by omega) (by omega) (by omega)
  refine ⟨⟨by omega, by omega⟩, ⟨by omega, by omega⟩, ⟨by omega, by omega⟩, ⟨by have := hz.1; omega, by have := hz.2; omega⟩, ⟨by omega, by omega⟩, by omega, _, _, ret_partner f t false a, _, _, ret_partner f t true a, _, _, ret_partner f t false 0, _, _, ret_partner f t false f, ?_⟩
  rw [v1, w1, v2, v3, e1, e2, e3, parQ_zero f1.1, parQ_end f1.1]
  refine ⟨fun _ => ⟨fun _ => ⟨fun _ => ⟨fun _ => ⟨fun _ => ⟨fun _ => ⟨⟨by omega, by omega⟩, fun _ => ⟨fun h => by omega, fun _ => ⟨fun h => by omega, fun _ => ⟨fun hlt => ?_, fun _ => ?_⟩⟩⟩, fun h => absurd rfl h⟩, fun h => absurd rfl h⟩, fun h => absurd rfl h⟩, fun h => absurd rfl h⟩, fun h => absurd rfl h⟩, fun h => absurd rfl h⟩, fun h => absurd rfl h⟩
  · obtain ⟨b4, v4, w4, e4⟩ := par_at f1.1 f1.2 t1.1 t1.2 (a := a + 1) (by omega) (by omega)
    have mono := parQ_mono (a := a) f1.1 t1.1
    refine ⟨⟨by omega, by omega⟩, _, _, ret_partner f t false (a + 1), ?_⟩
    rw [v4, e4]
    exact ⟨fun _ => ⟨fun h => by omega, fun _ => ⟨⟨by omega, by omega⟩, ⟨by omega, by omega⟩, ⟨by omega, by omega⟩, ⟨by omega, by omega⟩, fun _ => ⟨⟨by omega, by omega⟩, ⟨by omega, by omega⟩, fun _ => ⟨_, ret_alive, rfl⟩, fun h => absurd near.2 h⟩, fun h => absurd near.1 h⟩⟩, fun h => absurd rfl h⟩
  · exact ⟨⟨by omega, by omega⟩, ⟨by omega, by omega⟩, ⟨by omega, by omega⟩, ⟨by omega, by omega⟩, fun _ => ⟨⟨by omega, by omega⟩, ⟨by omega, by omega⟩, fun _ => ⟨_, ret_alive, rfl⟩, fun h => absurd near.2 h⟩, fun h => absurd near.1 h⟩
end Go.Ab
