/- The square root of a float of a whole number from 0 on: it is a whole number from 0 on, in range. -/
import GoSem.Extern.MathSqrt
import GoSem.Conv.IntToFloat
set_option linter.unusedVariables false
set_option linter.unusedSimpArgs false
set_option linter.unusedSectionVars false

namespace Go.Ab
open Ieee

theorem root_sq (n : Nat) : ∀ (todo r : Nat), r * r ≤ n → Datum.rootFrom n todo r * Datum.rootFrom n todo r ≤ n
  | 0, r, h => h
  | todo + 1, r, h => by
    unfold Datum.rootFrom
    simp only
    split
    · rename_i h'; exact root_sq n todo _ h'
    · exact root_sq n todo r h

theorem cut_even_le (neg : Bool) (n d k : Nat) (h : n < 2 ^ (k + d)) : Toward.even.cut neg n d ≤ 2 ^ k := by
  unfold Toward.cut
  simp only
  by_cases hd : d ≤ n.log2 + 2
  · rw [Nat.min_eq_left hd, Nat.one_shiftLeft]
    have h1 : n / 2 ^ d < 2 ^ k := by
      rw [Nat.div_lt_iff_lt_mul (Nat.two_pow_pos d), ← Nat.pow_add]
      exact h
    have h2 : ∀ b : Bool, b.toNat ≤ 1 := by intro b; cases b <;> simp
    have := h2 (decide (2 ^ d < 2 * (n % 2 ^ d)) || 2 ^ d == 2 * (n % 2 ^ d) && n / 2 ^ d % 2 == 1)
    omega
  · rw [Nat.min_eq_right (by omega), Nat.one_shiftLeft]
    have hn : n < 2 ^ (n.log2 + 1) := Nat.lt_log2_self
    have hn2 : n < 2 ^ (n.log2 + 2) := by
      have : 2 ^ (n.log2 + 1) ≤ 2 ^ (n.log2 + 2) := Nat.pow_le_pow_right (by omega) (by omega)
      omega
    have hp : 2 ^ (n.log2 + 2) = 2 * 2 ^ (n.log2 + 1) := by rw [Nat.pow_succ]; omega
    rw [Nat.div_eq_of_lt hn2, Nat.mod_eq_of_lt hn2]
    have e1 : decide (2 ^ (n.log2 + 2) < 2 * n) = false := by simp; omega
    have e2 : (2 ^ (n.log2 + 2) == 2 * n) = false := by simp; omega
    simp [e1, e2]

theorem nearest_eq (m : Nat) (p : Int) (hm : m ≠ 0) : double.nearest false m p = min ((max (p + (m.log2 : Int) - 52) (-1074) + 1074).toNat * 4503599627370496 + Toward.even.cut false (m <<< (p - max (p + (m.log2 : Int) - 52) (-1074)).toNat) (max (p + (m.log2 : Int) - 52) (-1074) - p).toNat) 9218868437227405312 := by
  unfold Format.nearest
  rw [if_neg hm]
  have e1 : double.leastPlace = -1074 := by rfl
  have e2 : (double.fractionBits : Int) = 52 := by rfl
  have e3 : double.binade = 4503599627370496 := by rfl
  have e4 : double.infRung = 9218868437227405312 := by rfl
  simp only [Format.word, Bool.false_eq_true, if_false, e1, e2, e3, e4, Int.sub_neg]

theorem rung_le (m : Nat) (p B : Int) (hm : m ≠ 0) (hB : p + m.log2 ≤ B) (hB0 : -1022 ≤ B) : double.nearest false m p ≤ (B + 1024).toNat * 4503599627370496 := by
  rw [nearest_eq m p hm]
  have hl : m < 2 ^ (m.log2 + 1) := Nat.lt_log2_self
  generalize hla : max (p + (m.log2 : Int) - 52) (-1074) = last
  have h1 : p + m.log2 - 52 ≤ last := by omega
  have h2 : last ≤ B - 52 := by omega
  have h2' : -1074 ≤ last := by omega
  have hk : Toward.even.cut false (m <<< (p - last).toNat) (last - p).toNat ≤ 2 ^ 53 := by
    apply cut_even_le
    rw [Nat.shiftLeft_eq]
    have : m * 2 ^ (p - last).toNat < 2 ^ (m.log2 + 1) * 2 ^ (p - last).toNat := Nat.mul_lt_mul_of_pos_right hl (Nat.two_pow_pos _)
    rw [← Nat.pow_add] at this
    have h3 : 2 ^ (m.log2 + 1 + (p - last).toNat) ≤ 2 ^ (53 + (last - p).toNat) := Nat.pow_le_pow_right (by omega) (by omega)
    omega
  have h6 : (B + 1024).toNat = (B + 1022).toNat + 2 := by omega
  rw [h6]
  have h4 : (last + 1074).toNat ≤ (B + 1022).toNat := by omega
  have h5 := Nat.mul_le_mul_right 4503599627370496 h4
  refine Nat.le_trans (Nat.min_le_left _ _) ?_
  rw [Nat.add_mul]
  exact Nat.add_le_add h5 (Nat.le_trans hk (Nat.le_of_eq (by rfl)))

theorem read_eq (r : Nat) : double.read r = if r % 9223372036854775808 < 4503599627370496 then .number (r / 9223372036854775808 % 2 == 1) (r % 9223372036854775808) (-1074)
    else if r % 9223372036854775808 < 9218868437227405312 then .number (r / 9223372036854775808 % 2 == 1) (4503599627370496 + r % 9223372036854775808 % 4503599627370496) (-1074 + (r % 9223372036854775808 / 4503599627370496 - 1 : Nat))
    else if r % 9223372036854775808 = 9218868437227405312 then .infinity (r / 9223372036854775808 % 2 == 1) else .nan (r / 9223372036854775808 % 2 == 1) (r % 9223372036854775808 - 9218868437227405312) := by
  have e1 : double.leastPlace = -1074 := by rfl
  have e3 : double.binade = 4503599627370496 := by rfl
  have e4 : double.infRung = 9218868437227405312 := by rfl
  have e5 : double.signWeight = 9223372036854775808 := by rfl
  unfold Format.read
  simp only [e1, e3, e4, e5]

theorem read_of (r C : Nat) (h : r ≤ C * 4503599627370496) (hC : C ≤ 2046) (hC1 : 1 ≤ C) : ∃ m i, double.read r = .number false m i ∧ m < 9007199254740992 ∧ i ≤ (C : Int) - 1075 := by
  rw [read_eq]
  have h1 : r / 9223372036854775808 = 0 := by omega
  have h2 : r % 9223372036854775808 = r := Nat.mod_eq_of_lt (by omega)
  rw [h1, h2]
  by_cases c : r < 4503599627370496
  · exact ⟨r, -1074, by rw [if_pos c]; rfl, by omega, by omega⟩
  · rw [if_neg c]
    by_cases c2 : r < 9218868437227405312
    · rw [if_pos c2]
      exact ⟨_, _, rfl, by omega, by omega⟩
    · omega

theorem log2_lt {m k : Nat} (h : m < 2 ^ (k + 1)) (hm : m ≠ 0) : m.log2 ≤ k := by
  have := (Nat.log2_lt hm (k := k + 1)).2 h
  omega

theorem write_pos (m : Nat) (p B : Int) (hm : m ≠ 0) (hB : p + m.log2 ≤ B) (hB0 : -1022 ≤ B) (hB1 : B ≤ 1000) : ∃ m' i, double.read (double.nearest false m p) = .number false m' i ∧ m' < 9007199254740992 ∧ i ≤ B - 51 := by
  obtain ⟨m', i, h1, h2, h3⟩ := read_of _ (B + 1024).toNat (rung_le m p B hm hB hB0) (by omega) (by omega)
  exact ⟨m', i, h1, h2, by omega⟩
theorem write_zero (p : Int) : double.read (double.nearest false 0 p) = .number false 0 (-1074) := by
  have : double.nearest false 0 p = 0 := by simp [Format.nearest, Format.word]
  rw [this, read_eq]
  rfl
theorem int_of (m : Nat) (i : Int) (hm : m < 9007199254740992) (hi : i ≤ 0) : ∃ r, (Datum.number false m i).toInt .zero = some r ∧ 0 ≤ r ∧ r ≤ 9223372036854775807 := by
  refine ⟨_, rfl, ?_⟩
  simp only [signed, Bool.false_eq_true, if_false, Nat.shiftLeft_zero]
  have e : i.toNat = 0 := by omega
  rw [e, Nat.shiftLeft_zero]
  have : Toward.zero.cut false m (-i).toNat ≤ m := by
    unfold Toward.cut
    simp only [Bool.toNat_false, Nat.add_zero]
    exact Nat.div_le_self _ _
  omega

theorem sqrt_of (x : Nat) (m : Nat) (i : Int) (hx : double.read x = .number false m i) (hm : m < 9007199254740992) (hi : i ≤ 12) : ∃ b r, double.sqrt x = some b ∧ (double.read b).toInt .zero = some r ∧ 0 ≤ r ∧ r ≤ 9223372036854775807 := by
  unfold Format.sqrt
  rw [hx]
  by_cases c : m = 0
  · subst c
    obtain ⟨r, h1, h2, h3⟩ := int_of 0 (-1074) (by omega) (by omega)
    exact ⟨_, r, rfl, by rw [show double.write (.number false 0 i) = double.nearest false 0 i from rfl, write_zero]; exact h1, h2, h3⟩
  · have e0 : double.fractionBits + 2 = 54 := by rfl
    rw [e0]
    rw [show Datum.root 54 (.number false m i) = (if m = 0 then some (.number false m i) else some (.number false (2 * Datum.rootFrom (m <<< (2 * 54 - m.log2 + ((i - ((2 * 54 - m.log2 : Nat) : Int)) % 2).toNat)) ((m <<< (2 * 54 - m.log2 + ((i - ((2 * 54 - m.log2 : Nat) : Int)) % 2).toNat)).log2 / 2 + 1) 0 + (Datum.rootFrom (m <<< (2 * 54 - m.log2 + ((i - ((2 * 54 - m.log2 : Nat) : Int)) % 2).toNat)) ((m <<< (2 * 54 - m.log2 + ((i - ((2 * 54 - m.log2 : Nat) : Int)) % 2).toNat)).log2 / 2 + 1) 0 * Datum.rootFrom (m <<< (2 * 54 - m.log2 + ((i - ((2 * 54 - m.log2 : Nat) : Int)) % 2).toNat)) ((m <<< (2 * 54 - m.log2 + ((i - ((2 * 54 - m.log2 : Nat) : Int)) % 2).toNat)).log2 / 2 + 1) 0 != m <<< (2 * 54 - m.log2 + ((i - ((2 * 54 - m.log2 : Nat) : Int)) % 2).toNat)).toNat) ((i - ((2 * 54 - m.log2 + ((i - ((2 * 54 - m.log2 : Nat) : Int)) % 2).toNat : Nat) : Int)) / 2 - 1))) from rfl]
    rw [if_neg c, Option.map_some]
    have hpar : ((i - ((2 * 54 - m.log2 : Nat) : Int)) % 2).toNat ≤ 1 := by omega
    generalize ((i - ((2 * 54 - m.log2 : Nat) : Int)) % 2).toNat = par at hpar ⊢
    generalize hmore : 2 * 54 - m.log2 + par = more
    generalize hw : Datum.rootFrom (m <<< more) ((m <<< more).log2 / 2 + 1) 0 = w
    have hl : m.log2 ≤ 52 := log2_lt (by simpa using hm) c
    have hm1 : more ≤ 109 - m.log2 := by omega
    have hm2 : 56 ≤ more := by omega
    have hsq : w * w ≤ m <<< more := by rw [← hw]; exact root_sq _ _ 0 (by simp)
    have hn : m <<< more < 2 ^ 110 := by
      rw [Nat.shiftLeft_eq]
      have h1 : m < 2 ^ (m.log2 + 1) := Nat.lt_log2_self
      have h2 : m * 2 ^ more < 2 ^ (m.log2 + 1) * 2 ^ more := Nat.mul_lt_mul_of_pos_right h1 (Nat.two_pow_pos _)
      rw [← Nat.pow_add] at h2
      have h3 : 2 ^ (m.log2 + 1 + more) ≤ 2 ^ 110 := Nat.pow_le_pow_right (by omega) (by omega)
      omega
    have hwl : w < 2 ^ 55 := by
      apply Classical.byContradiction
      intro hc
      have h1 : 2 ^ 55 ≤ w := by omega
      have h2 := Nat.mul_le_mul h1 h1
      rw [← Nat.pow_add] at h2
      omega
    have hb : ∀ b : Bool, b.toNat ≤ 1 := by intro b; cases b <;> simp
    have hM : 2 * w + (w * w != m <<< more).toNat < 2 ^ 56 := by
      have := hb (w * w != m <<< more)
      omega
    generalize 2 * w + (w * w != m <<< more).toNat = M at hM
    by_cases cM : M = 0
    · subst cM
      obtain ⟨r, h1, h2, h3⟩ := int_of 0 (-1074) (by omega) (by omega)
      exact ⟨_, r, rfl, by rw [show double.write (.number false 0 ((i - more) / 2 - 1)) = double.nearest false 0 ((i - more) / 2 - 1) from rfl, write_zero]; exact h1, h2, h3⟩
    · have hlM : M.log2 ≤ 55 := log2_lt hM cM
      obtain ⟨m', i', g1, g2, g3⟩ := write_pos M ((i - more) / 2 - 1) 32 cM (by omega) (by omega) (by omega)
      obtain ⟨r, h1, h2, h3⟩ := int_of m' i' g2 (by omega)
      exact ⟨_, r, rfl, by rw [show double.write (.number false M ((i - more) / 2 - 1)) = double.nearest false M ((i - more) / 2 - 1) from rfl, g1]; exact h1, h2, h3⟩

theorem sqrt_ok (n : Int) (h0 : 0 ≤ n) (h1 : n ≤ 9223372036854775807) : ∃ b r, FloatKind.f64.format.sqrt (FloatKind.f64.nearest n) = some b ∧ (FloatKind.f64.decode b).toInt .zero = some r ∧ 0 ≤ r ∧ r ≤ 9223372036854775807 := by
  have e : FloatKind.f64.nearest n = double.nearest false n.natAbs 0 := by
    have : decide (n < 0) = false := by simp; omega
    simp [FloatKind.nearest, FloatKind.encode, FloatKind.format, Format.write, this]
  show ∃ b r, double.sqrt (FloatKind.f64.nearest n) = some b ∧ (double.read b).toInt .zero = some r ∧ 0 ≤ r ∧ r ≤ 9223372036854775807
  rw [e]
  by_cases c : n.natAbs = 0
  · rw [c]; exact sqrt_of _ 0 (-1074) (write_zero 0) (by omega) (by omega)
  · have hl : n.natAbs.log2 ≤ 62 := log2_lt (by omega) c
    obtain ⟨m', i', g1, g2, g3⟩ := write_pos n.natAbs 0 63 c (by omega) (by omega) (by omega)
    exact sqrt_of _ m' i' g1 g2 (by omega)
end Go.Ab
