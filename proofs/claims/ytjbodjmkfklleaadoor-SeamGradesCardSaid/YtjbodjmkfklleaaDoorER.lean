/- A part of the proof. Conditions: those of each theorem. -/
import Derived.Test.YtjbodjmkfklleaaDoorEX
import Derived.Test.YtjbodjmkfklleaaDoorAbW2
set_option linter.unusedVariables false
set_option linter.unusedSimpArgs false
set_option linter.unusedSectionVars false

namespace Go.Ab
open Go.Proofs
set_option maxRecDepth 10000
set_option maxHeartbeats 4000000
set_option linter.unusedSimpArgs false

/-- The square root, rounded down. -/
def isqF : Nat → Nat → Nat
  | 0, _ => 0
  | k + 1, n => if (2 * isqF k (n / 4) + 1) * (2 * isqF k (n / 4) + 1) ≤ n then 2 * isqF k (n / 4) + 1 else 2 * isqF k (n / 4)
def isq (n : Int) : Int := isqF 32 n.toNat
theorem isqF_spec : ∀ (k n : Nat), n < 4 ^ k → isqF k n * isqF k n ≤ n ∧ n < (isqF k n + 1) * (isqF k n + 1)
  | 0, n, h => by
    have : n = 0 := by simpa using h
    subst this; simp [isqF]
  | k + 1, n, h => by
    obtain ⟨h1, h2⟩ := isqF_spec k (n / 4) (by rw [Nat.pow_succ] at h; omega)
    unfold isqF
    generalize isqF k (n / 4) = r at h1 h2 ⊢
    have e1 : (r + 1) * (r + 1) = r * r + 2 * r + 1 := by rw [Nat.add_mul, Nat.mul_add]; omega
    have e2 : (2 * r) * (2 * r) = 4 * (r * r) := by rw [Nat.mul_assoc, Nat.mul_left_comm r 2 r]; omega
    have e3 : (2 * r + 1) * (2 * r + 1) = 4 * (r * r) + 4 * r + 1 := by rw [Nat.add_mul, Nat.mul_add, e2]; omega
    have e4 : (2 * r + 1 + 1) * (2 * r + 1 + 1) = 4 * (r * r) + 8 * r + 4 := by
      rw [show 2 * r + 1 + 1 = 2 * (r + 1) by omega, Nat.mul_assoc, Nat.mul_left_comm (r + 1) 2 (r + 1), e1]; omega
    split
    · rename_i hc; exact ⟨hc, by rw [e4]; omega⟩
    · rename_i hc; exact ⟨by rw [e2]; omega, by omega⟩
theorem isq_spec {n : Int} (h0 : 0 ≤ n) (h1 : n ≤ 9223372036854775807) : 0 ≤ isq n ∧ isq n * isq n ≤ n ∧ n < (isq n + 1) * (isq n + 1) := by
  obtain ⟨a, b⟩ := isqF_spec 32 n.toNat (by have : (4 : Nat) ^ 32 = 18446744073709551616 := by rfl
                                            omega)
  unfold isq
  generalize isqF 32 n.toNat = r at a b ⊢
  have e : (n.toNat : Int) = n := Int.toNat_of_nonneg h0
  refine ⟨by omega, ?_, ?_⟩
  · rw [← e]; exact_mod_cast a
  · rw [← e]; exact_mod_cast b
theorem sq_mono {a b : Int} (ha : 0 ≤ a) (h : a ≤ b) : a * a ≤ b * b := Int.mul_le_mul h h ha (by omega)
theorem isq_unique {n r : Int} (h0 : 0 ≤ n) (h1 : n ≤ 9223372036854775807) (hr : 0 ≤ r) (h2 : r * r ≤ n) (h3 : n < (r + 1) * (r + 1)) : r = isq n := by
  obtain ⟨a, b, c⟩ := isq_spec h0 h1
  rcases Int.lt_trichotomy r (isq n) with h | h | h
  · have := sq_mono (a := r + 1) (b := isq n) (by omega) (by omega); omega
  · exact h
  · have := sq_mono (a := isq n + 1) (b := r) (by omega) (by omega); omega
theorem le_div {n r : Int} (hn : 0 ≤ n) (hr : 0 < r) : r ≤ n.tdiv r ↔ r * r ≤ n := by
  rw [Int.tdiv_eq_ediv_of_nonneg hn, Int.le_ediv_iff_mul_le hr]
theorem div_range {n r : Int} (hn : 0 ≤ n) (hr : 0 < r) : 0 ≤ n.tdiv r ∧ n.tdiv r ≤ n := by
  rw [Int.tdiv_eq_ediv_of_nonneg hn]
  exact ⟨Int.ediv_nonneg hn (by omega), Int.ediv_le_self r hn⟩

@[simp] theorem ti3 : tint Tryd.prog 3 = some .i64 := by kernel_rfl
@[simp] theorem ti103 : tint Tryd.prog 103 = none := by kernel_rfl
@[simp] theorem tf103 : tfloat Tryd.prog 103 = some .f64 := by kernel_rfl
theorem ret_root {n : Int} (h0 : 0 ≤ n) (h1 : n ≤ 9223372036854775807) : Ret Tryd.prog XS 46 [int n] (int (isq n)) := by
  refine Ret.of_body Tryd.func46 rfl (by kernel_rfl) (by kernel_rfl) (by kernel_rfl) ?_
  obtain ⟨b, r0, hb, hr, hr0, hr1⟩ := sqrt_ok n h0 h1
  have hR : Ret Tryd.prog XS 53 [.sc (.float .f64 (FloatKind.f64.nearest n))] (.sc (.float .f64 b)) := .ext ⟨rfl, _, b, hb, rfl, rfl⟩
  have ci : ∀ s, convE Tryd.prog s 3 103 (int n) = some ⟨.sc (.float .f64 (FloatKind.f64.nearest n)), [], s.nx, []⟩ := fun s => by simp only [convE, tf103, ti103, ti3]
  have cf : ∀ s, convE Tryd.prog s 103 3 (.sc (.float .f64 b)) = some ⟨int r0, [], s.nx, []⟩ := fun s => by
    have e1 : IntKind.i64.min = -9223372036854775808 := by rfl
    have e2 : IntKind.i64.max = 9223372036854775807 := by rfl
    simp only [convE, tf103, ti3, hr]
    rw [if_pos ⟨by omega, by omega⟩]
  simp (config := {dsimp := false}) [ci]
  refine call_same hR rfl ?_
  simp (config := {dsimp := false}) [cf]
  refine loop_ind (fun r : Int => 0 ≤ r ∧ r ≤ 9223372036854775807) (fun r => r.toNat) (fun r => ⟨[(0, int n), (3, int r)], [], 0⟩) r0 ⟨hr0, hr1⟩ (Weak.anew [] rfl (by simp) (by simp)) ?_
  rintro r ⟨g0, g1⟩
  by_cases hpos : 0 < r
  · obtain ⟨d0, d1⟩ := div_range (r := r) h0 hpos
    have ew : IntKind.i64.wrap (n.tdiv r) = n.tdiv r := w64_id (by omega) (by omega)
    have ew2 : IntKind.i64.wrap (r - 1) = r - 1 := w64_id (by omega) (by omega)
    by_cases hgt : n.tdiv r < r
    · simp (config := {dsimp := false}) [hpos, ew, ew2, hgt, show r ≠ 0 by omega]
      exact ⟨r - 1, ⟨by omega, by omega⟩, by omega, Weak.anew [] rfl (by simp) (by simp)⟩
    · simp (config := {dsimp := false}) [hpos, ew, ew2, eq_false hgt, show r ≠ 0 by omega]
      have hsq : r * r ≤ n := (le_div h0 hpos).1 (by omega)
      refine loop_ind (fun r : Int => 0 ≤ r ∧ r * r ≤ n) (fun r => (n - r).toNat) (fun r => ⟨[(0, int n), (3, int r)], [], 0⟩) r ⟨g0, hsq⟩ (Weak.anew [] rfl (by simp) (by simp)) ?_
      clear hsq hgt ew ew2 d0 d1 hpos g0 g1 r
      rintro r ⟨g0, hsq⟩
      have hrn : r ≤ n := by
        rcases Int.lt_or_le r 1 with h | h
        · omega
        · have := Int.mul_le_mul_of_nonneg_right h g0; omega
      have hr3 : r ≤ 3037000499 := by
        apply Classical.byContradiction
        intro hc
        have := sq_mono (a := 3037000500) (b := r) (by omega) (by omega)
        omega
      obtain ⟨d0, d1⟩ := div_range (r := r + 1) h0 (by omega)
      have ew : IntKind.i64.wrap (n.tdiv (r + 1)) = n.tdiv (r + 1) := w64_id (by omega) (by omega)
      have ew2 : IntKind.i64.wrap (r + 1) = r + 1 := w64_id (by omega) (by omega)
      by_cases hle : r + 1 ≤ n.tdiv (r + 1)
      · simp (config := {dsimp := false}) [ew, ew2, hle, show r + 1 ≠ 0 by omega]
        exact ⟨r + 1, ⟨by omega, (le_div h0 (by omega)).1 hle⟩, by omega, Weak.anew [] rfl (by simp) (by simp)⟩
      · simp (config := {dsimp := false}) [ew, ew2, eq_false hle, show r + 1 ≠ 0 by omega]
        exact isq_unique h0 h1 g0 hsq (by have := mt (le_div (r := r + 1) h0 (by omega)).2 hle; omega)
  · obtain rfl : r = 0 := by omega
    simp (config := {dsimp := false}) []
    refine loop_ind (fun r : Int => 0 ≤ r ∧ r * r ≤ n) (fun r => (n - r).toNat) (fun r => ⟨[(0, int n), (3, int r)], [], 0⟩) 0 ⟨by omega, by omega⟩ (Weak.anew [] rfl (by simp) (by simp)) ?_
    clear hpos g0 g1
    rintro r ⟨g0, hsq⟩
    have hrn : r ≤ n := by
      rcases Int.lt_or_le r 1 with h | h
      · omega
      · have := Int.mul_le_mul_of_nonneg_right h g0; omega
    have hr3 : r ≤ 3037000499 := by
      apply Classical.byContradiction
      intro hc
      have := sq_mono (a := 3037000500) (b := r) (by omega) (by omega)
      omega
    obtain ⟨d0, d1⟩ := div_range (r := r + 1) h0 (by omega)
    have ew : IntKind.i64.wrap (n.tdiv (r + 1)) = n.tdiv (r + 1) := w64_id (by omega) (by omega)
    have ew2 : IntKind.i64.wrap (r + 1) = r + 1 := w64_id (by omega) (by omega)
    by_cases hle : r + 1 ≤ n.tdiv (r + 1)
    · simp (config := {dsimp := false}) [ew, ew2, hle, show r + 1 ≠ 0 by omega]
      exact ⟨r + 1, ⟨by omega, (le_div h0 (by omega)).1 hle⟩, by omega, Weak.anew [] rfl (by simp) (by simp)⟩
    · simp (config := {dsimp := false}) [ew, ew2, eq_false hle, show r + 1 ≠ 0 by omega]
      exact isq_unique h0 h1 g0 hsq (by have := mt (le_div (r := r + 1) h0 (by omega)).2 hle; omega)
end Go.Ab
