/- Knuth's division of two words by one, as math/bits.Div64 does it: plain arithmetic. -/
import Derived.Test.YtjbodjmkfklleaaDoorAbW2
set_option linter.unusedVariables false
set_option linter.unusedSimpArgs false
set_option linter.unusedSectionVars false

namespace Go.Ab
set_option linter.unusedVariables false

theorem wU (x : Int) : IntKind.u64.wrap x = x % 18446744073709551616 := IntKind.wrap_u64 x
theorem wU_id {x : Int} (h : 0 ≤ x) (h2 : x < 18446744073709551616) : IntKind.u64.wrap x = x := by rw [wU]; omega
theorem shR_eq {a b : Int} (h : 0 ≤ a) : shR .u64 a b = a / 2 ^ (min b.toNat 64) := by
  unfold shR
  exact Int.fdiv_eq_ediv_of_nonneg _ (Int.le_of_lt (Int.pow_pos (by decide)))
theorem shR32 {a : Int} (h : 0 ≤ a) : shR .u64 a 32 = a / 4294967296 := shR_eq h
theorem bAnd_mask {a : Int} (h : 0 ≤ a) (h2 : a < 18446744073709551616) : bAnd .u64 a 4294967295 = a % 4294967296 := by
  have h3 : (BitVec.ofInt 64 a &&& BitVec.ofInt 64 4294967295).toNat = (a % 4294967296).toNat := by
    have e3 : (BitVec.ofInt 64 4294967295) = 4294967295#64 := by rfl
    rw [e3, BitVec.toNat_and, show (4294967295#64).toNat = 2 ^ 32 - 1 by rfl, Nat.and_two_pow_sub_one_eq_mod, BitVec.toNat_ofInt]
    omega
  show IntKind.wrap .u64 ((BitVec.ofInt 64 a &&& BitVec.ofInt 64 4294967295).toNat : Int) = _
  rw [h3, wU]; omega
theorem bOr_add {a b : Int} {s : Nat} (ha : 0 ≤ a) (hs : s ≤ 64) (hb : 0 ≤ b) (hb2 : b < 2 ^ s) : bOr .u64 ((a * 2 ^ s) % 18446744073709551616) b = (a * 2 ^ s) % 18446744073709551616 + b := by
  obtain ⟨x, rfl⟩ : ∃ x : Nat, a = x := ⟨a.toNat, by omega⟩
  obtain ⟨z, rfl⟩ : ∃ z : Nat, b = z := ⟨b.toNat, by omega⟩
  have hz : z < 2 ^ s := by exact_mod_cast hb2
  have h64 : (2 : Nat) ^ 64 = 2 ^ (64 - s) * 2 ^ s := by rw [← Nat.pow_add]; congr 1; omega
  have hp : 0 < (2 : Nat) ^ (64 - s) := Nat.pow_pos (by decide)
  have hp2 : 0 < (2 : Nat) ^ s := Nat.pow_pos (by decide)
  have hm : (x * 2 ^ s) % 18446744073709551616 = (x % 2 ^ (64 - s)) * 2 ^ s := by
    rw [show (18446744073709551616 : Nat) = 2 ^ (64 - s) * 2 ^ s from h64, Nat.mul_mod_mul_right]
  have hx : x % 2 ^ (64 - s) < 2 ^ (64 - s) := Nat.mod_lt _ hp
  have hsum : (x % 2 ^ (64 - s)) * 2 ^ s + z < 18446744073709551616 := by
    rw [show (18446744073709551616 : Nat) = 2 ^ (64 - s) * 2 ^ s from h64]
    have : (x % 2 ^ (64 - s) + 1) * 2 ^ s ≤ 2 ^ (64 - s) * 2 ^ s := Nat.mul_le_mul_right _ hx
    rw [Nat.add_mul, Nat.one_mul] at this
    omega
  have hor : ((x % 2 ^ (64 - s)) * 2 ^ s) ||| z = (x % 2 ^ (64 - s)) * 2 ^ s + z := by
    rw [← Nat.shiftLeft_eq, Nat.shiftLeft_add_eq_or_of_lt hz]
  have em : ((x : Int) * 2 ^ s) % 18446744073709551616 = (((x * 2 ^ s) % 18446744073709551616 : Nat) : Int) := by
    rw [Int.natCast_emod, Int.natCast_mul, Int.natCast_pow]; rfl
  rw [em, hm]
  unfold bOr
  rw [wU]
  have e1 : (BitVec.ofInt IntKind.u64.bits (((x % 2 ^ (64 - s)) * 2 ^ s : Nat) : Int)).toNat = (x % 2 ^ (64 - s)) * 2 ^ s := by
    show (BitVec.ofInt 64 _).toNat = _
    rw [BitVec.ofInt_natCast, BitVec.toNat_ofNat]; exact Nat.mod_eq_of_lt (show _ < 18446744073709551616 by omega)
  have e2 : (BitVec.ofInt IntKind.u64.bits (z : Int)).toNat = z := by
    show (BitVec.ofInt 64 _).toNat = _
    rw [BitVec.ofInt_natCast, BitVec.toNat_ofNat]; exact Nat.mod_eq_of_lt (show _ < 18446744073709551616 by omega)
  rw [BitVec.toNat_or, e1, e2, hor]
  omega

/-- One digit: what the loop keeps. -/
structure Digit (y1 y0 u u1 q r : Int) : Prop where
  r0 : 0 ≤ r
  r1 : r < 4294967296
  q0 : 0 ≤ q
  q1 : q ≤ 8589934592
  eu : u = q * y1 + r
  up : u * 4294967296 + u1 < (q + 1) * (y1 * 4294967296 + y0)
theorem digit_first {y1 y0 u u1 : Int} (h1 : 2147483648 ≤ y1) (h2 : y1 < 4294967296) (h3 : 0 ≤ y0) (h4 : 0 ≤ u) (h5 : u < 18446744073709551616) (h6 : u1 < 4294967296) : Digit y1 y0 u u1 (u / y1) (u - u / y1 * y1) := by
  have e := Int.mul_ediv_add_emod u y1
  have m0 := Int.emod_nonneg u (show y1 ≠ 0 by omega)
  have m1 := Int.emod_lt_of_pos u (show 0 < y1 by omega)
  have ec : y1 * (u / y1) = u / y1 * y1 := Int.mul_comm ..
  have hq : u / y1 ≤ 8589934592 := by
    have := Int.ediv_le_ediv (show 0 < y1 by omega) (show u ≤ 8589934592 * y1 by omega)
    rwa [Int.mul_ediv_cancel _ (by omega)] at this
  refine ⟨by omega, by omega, Int.ediv_nonneg h4 (by omega), hq, by omega, ?_⟩
  have : (u / y1 + 1) * (y1 * 4294967296 + y0) = (u / y1 * y1) * 4294967296 + y1 * 4294967296 + (u / y1 + 1) * y0 := by
    rw [Int.mul_add, Int.add_mul, Int.one_mul, ← Int.mul_assoc, Int.add_mul]
  have h0 : 0 ≤ (u / y1 + 1) * y0 := Int.mul_nonneg (by have := Int.ediv_nonneg h4 (show 0 ≤ y1 by omega); omega) h3
  omega
/-- The digit is too large: the next smaller one keeps all but r's bound. -/
theorem digit_down {y1 y0 u u1 q r : Int} (h : Digit y1 y0 u u1 q r) (h2 : 0 < y1) (h3 : 0 ≤ y0) (h4 : 0 ≤ u1) (hu : u < y1 * 4294967296 + y0) (hc : 4294967296 ≤ q ∨ 4294967296 * r + u1 < q * y0) (hy : y0 < 4294967296) (hu1 : u1 < 4294967296) :
    1 ≤ q ∧ u = (q - 1) * y1 + (r + y1) ∧ u * 4294967296 + u1 < q * (y1 * 4294967296 + y0) := by
  have hq1 : 1 ≤ q := by
    rcases hc with hc | hc
    · omega
    · apply Classical.byContradiction; intro hn
      have : q = 0 := by have := h.q0; omega
      rw [this, Int.zero_mul] at hc
      have := h.r0; omega
  refine ⟨hq1, by rw [Int.sub_mul, Int.one_mul]; have := h.eu; omega, ?_⟩
  rcases hc with hc | hc
  · have : 4294967296 * (y1 * 4294967296 + y0) ≤ q * (y1 * 4294967296 + y0) := Int.mul_le_mul_of_nonneg_right hc (by omega)
    omega
  · have : q * (y1 * 4294967296 + y0) = (q * y1) * 4294967296 + q * y0 := by rw [Int.mul_add, Int.mul_assoc]
    have := h.eu
    omega
theorem digit_next {y1 y0 u u1 q r : Int} (h : Digit y1 y0 u u1 q r) (hd : 1 ≤ q ∧ u = (q - 1) * y1 + (r + y1) ∧ u * 4294967296 + u1 < q * (y1 * 4294967296 + y0)) (hr : r + y1 < 4294967296) (hy : 0 < y1) : Digit y1 y0 u u1 (q - 1) (r + y1) :=
  ⟨by have := h.r0; omega, hr, by omega, by have := h.q1; omega, hd.2.1, by rw [show q - 1 + 1 = q by omega]; exact hd.2.2⟩
theorem div_of {N q y : Int} (h0 : 0 < y) (h1 : q * y ≤ N) (h2 : N < (q + 1) * y) : N / y = q := by
  have a := (Int.le_ediv_iff_mul_le h0).2 h1
  have b := Int.ediv_lt_of_lt_mul h0 h2
  omega
/-- It fits: the digit is the quotient. -/
theorem digit_done {y1 y0 u u1 q r : Int} (h : Digit y1 y0 u u1 q r) (h2 : 0 < y1) (h3 : 0 ≤ y0) (hc : q * y0 ≤ 4294967296 * r + u1) : (u * 4294967296 + u1) / (y1 * 4294967296 + y0) = q := by
  refine div_of (by omega) ?_ h.up
  have : q * (y1 * 4294967296 + y0) = (q * y1) * 4294967296 + q * y0 := by rw [Int.mul_add, Int.mul_assoc]
  have := h.eu
  omega
theorem digit_break {y1 y0 u u1 q r : Int} (h : Digit y1 y0 u u1 q r) (hd : 1 ≤ q ∧ u = (q - 1) * y1 + (r + y1) ∧ u * 4294967296 + u1 < q * (y1 * 4294967296 + y0)) (h2 : 0 < y1) (h3 : 0 ≤ y0) (hy : y0 < 4294967296) (hu : u < y1 * 4294967296 + y0) (h4 : 0 ≤ u1) (hu1 : u1 < 4294967296) (hr : 4294967296 ≤ r + y1) (hy1 : y1 < 4294967296) :
    (u * 4294967296 + u1) / (y1 * 4294967296 + y0) = q - 1 := by
  have e : (q - 1) * (y1 * 4294967296 + y0) = ((q - 1) * y1) * 4294967296 + (q - 1) * y0 := by rw [Int.mul_add, Int.mul_assoc]
  have hq : q - 1 ≤ 4294967296 := by
    apply Classical.byContradiction; intro hn
    have : 4294967297 * y1 ≤ (q - 1) * y1 := Int.mul_le_mul_of_nonneg_right (by omega) (by omega)
    omega
  have hm : (q - 1) * y0 ≤ 4294967296 * 4294967295 := Int.mul_le_mul hq (by omega) h3 (by omega)
  refine div_of (by omega) ?_ (by rw [show q - 1 + 1 = q by omega]; exact hd.2.2)
  rw [e]; omega
/-- The quotient of a first digit is below the base. -/
theorem quot_lt {u u1 y : Int} (hy : 0 < y) (hu : u < y) (h1 : u1 < 4294967296) : (u * 4294967296 + u1) / y < 4294967296 := by
  refine Int.ediv_lt_of_lt_mul hy ?_
  have : (u + 1) * 4294967296 ≤ y * 4294967296 := Int.mul_le_mul_of_nonneg_right (by omega) (by omega)
  rw [Int.mul_comm 4294967296 y]
  omega
/-- Two digits are the whole. -/
theorem two_digits {u u1 u0 y : Int} (hy : 0 < y) (h0 : 0 ≤ u0) (h1 : u0 < 4294967296) :
    (u * 18446744073709551616 + (u1 * 4294967296 + u0)) / y = (u * 4294967296 + u1) / y * 4294967296 + ((u * 4294967296 + u1) % y * 4294967296 + u0) / y ∧
    (u * 18446744073709551616 + (u1 * 4294967296 + u0)) % y = ((u * 4294967296 + u1) % y * 4294967296 + u0) % y := by
  have e := Int.mul_ediv_add_emod (u * 4294967296 + u1) y
  generalize (u * 4294967296 + u1) / y = q1 at *
  generalize (u * 4294967296 + u1) % y = r1 at *
  have e2 : u * 18446744073709551616 + (u1 * 4294967296 + u0) = r1 * 4294967296 + u0 + y * (q1 * 4294967296) := by
    rw [← Int.mul_assoc]; omega
  rw [e2]
  exact ⟨by rw [Int.add_mul_ediv_left _ _ (by omega)]; omega, by rw [Int.add_mul_emod_self_left]⟩
end Go.Ab
