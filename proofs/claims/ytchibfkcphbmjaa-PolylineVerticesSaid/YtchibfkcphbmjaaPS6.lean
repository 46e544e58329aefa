/- A part of the proof. Conditions: those of each theorem. -/
import Derived.Test.YtchibfkcphbmjaaPS5
set_option linter.unusedVariables false
set_option linter.unusedSimpArgs false
set_option linter.unusedSectionVars false

namespace Go.Ab
open Go.Proofs
set_option maxRecDepth 10000
set_option linter.unusedVariables false

/-! How far a rounded point is. -/
theorem le_of_sq {x y : Int} (hy : 0 ≤ y) (h : x * x ≤ y * y) : x ≤ y := by
  apply Classical.byContradiction; intro hc
  have := Int.mul_le_mul (show y + 1 ≤ x by omega) (show y + 1 ≤ x by omega) (by omega) (by omega)
  have e : (y + 1) * (y + 1) = y * y + 2 * y + 1 := by grind
  omega
theorem cauchy (a b c d : Int) : (a * c + b * d) * (a * c + b * d) ≤ (a * a + b * b) * (c * c + d * d) := by
  have e : (a * a + b * b) * (c * c + d * d) = (a * c + b * d) * (a * c + b * d) + (a * d - b * c) * (a * d - b * c) := by grind
  have := sq_nn (a * d - b * c)
  omega
theorem dot_le {a b c d P Q : Int} (hP : 0 ≤ P) (hQ : 0 ≤ Q) (h1 : a * a + b * b ≤ P * P) (h2 : c * c + d * d ≤ Q * Q) : a * c + b * d ≤ P * Q := by
  have h3 := cauchy a b c d
  have h4 : (a * a + b * b) * (c * c + d * d) ≤ (P * P) * (Q * Q) := Int.mul_le_mul h1 h2 (by have := sq_nn c; have := sq_nn d; omega) (Int.mul_nonneg hP hP)
  have e : (P * P) * (Q * Q) = (P * Q) * (P * Q) := by grind
  exact le_of_sq (Int.mul_nonneg hP hQ) (by omega)
theorem sum_le {a b c d P Q : Int} (hP : 0 ≤ P) (hQ : 0 ≤ Q) (h1 : a * a + b * b ≤ P * P) (h2 : c * c + d * d ≤ Q * Q) : (a + c) * (a + c) + (b + d) * (b + d) ≤ (P + Q) * (P + Q) := by
  have h3 := dot_le hP hQ h1 h2
  have e : (a + c) * (a + c) + (b + d) * (b + d) = (a * a + b * b) + 2 * (a * c + b * d) + (c * c + d * d) := by grind
  have e2 : (P + Q) * (P + Q) = P * P + 2 * (P * Q) + Q * Q := by grind
  omega
theorem near_len {n a wx wy ux uy : Int} (hn : 1000 ≤ n) (hn1 : n * n ≤ 1000000 * (wx * wx + wy * wy)) (hn2 : 1000000 * (wx * wx + wy * wy) < (n + 1) * (n + 1)) (ha0 : 0 ≤ a) (ha1 : a ≤ n)
    (hx : -n ≤ 2 * (n * ux - a * wx)) (hx' : 2 * (n * ux - a * wx) ≤ n) (hy : -n ≤ 2 * (n * uy - a * wy)) (hy' : 2 * (n * uy - a * wy) ≤ n) {r : Int} (hr : 0 ≤ r) (hr1 : r * r ≤ 1000000 * (ux * ux + uy * uy)) (hr2 : 1000000 * (ux * ux + uy * uy) < (r + 1) * (r + 1)) :
    r ≤ a + 709 ∧ a ≤ r + 709 := by
  have sq4 : ∀ e : Int, -n ≤ 2 * e → 2 * e ≤ n → 4 * (e * e) ≤ n * n := by
    intro e h1 h2
    have h3 : (2 * e) * (2 * e) ≤ n * n := by
      rcases Int.le_total 0 e with h | h
      · exact Int.mul_le_mul h2 h2 (by omega) (by omega)
      · have := Int.mul_le_mul (show -(2 * e) ≤ n by omega) (show -(2 * e) ≤ n by omega) (by omega) (by omega)
        rwa [Int.neg_mul_neg] at this
    have : (2 * e) * (2 * e) = 4 * (e * e) := by grind
    omega
  have y1 := sq4 _ hx hx'
  have y2 := sq4 _ hy hy'
  -- Y, a thousand times what rounding adds
  have hY : (1000 * (n * ux - a * wx)) * (1000 * (n * ux - a * wx)) + (1000 * (n * uy - a * wy)) * (1000 * (n * uy - a * wy)) ≤ (708 * n) * (708 * n) := by
    have e1 : ∀ e : Int, (1000 * e) * (1000 * e) = 1000000 * (e * e) := fun e => by grind
    have e2 : (708 * n) * (708 * n) = 501264 * (n * n) := by grind
    rw [e1, e1, e2]
    have := sq_nn n
    omega
  have eX : (1000 * (a * wx)) * (1000 * (a * wx)) + (1000 * (a * wy)) * (1000 * (a * wy)) = (a * a) * (1000000 * (wx * wx + wy * wy)) := by grind
  have eT : (1000 * (n * ux)) * (1000 * (n * ux)) + (1000 * (n * uy)) * (1000 * (n * uy)) = (n * n) * (1000000 * (ux * ux + uy * uy)) := by grind
  have haa := sq_nn a
  have hnn : 0 < n * n := Int.mul_pos (by omega) (by omega)
  constructor
  · have hX : (1000 * (a * wx)) * (1000 * (a * wx)) + (1000 * (a * wy)) * (1000 * (a * wy)) ≤ (a * (n + 1)) * (a * (n + 1)) := by
      rw [eX]
      have := Int.mul_le_mul_of_nonneg_left (Int.le_of_lt hn2) haa
      have e : (a * a) * ((n + 1) * (n + 1)) = (a * (n + 1)) * (a * (n + 1)) := by grind
      omega
    have h := sum_le (Int.mul_nonneg ha0 (by omega)) (show 0 ≤ 708 * n by omega) hX hY
    have e1 : 1000 * (a * wx) + 1000 * (n * ux - a * wx) = 1000 * (n * ux) := by omega
    have e2 : 1000 * (a * wy) + 1000 * (n * uy - a * wy) = 1000 * (n * uy) := by omega
    rw [e1, e2, eT] at h
    have e3 : a * (n + 1) + 708 * n ≤ n * (a + 709) := by
      have : a * (n + 1) = n * a + a := by grind
      have : n * (a + 709) = n * a + 709 * n := by grind
      omega
    have h5 := Int.mul_le_mul e3 e3 (by have := Int.mul_nonneg ha0 (show 0 ≤ n + 1 by omega); omega) (Int.mul_nonneg (by omega) (by omega))
    have e4 : (n * (a + 709)) * (n * (a + 709)) = (n * n) * ((a + 709) * (a + 709)) := by grind
    have h6 : (n * n) * (1000000 * (ux * ux + uy * uy)) ≤ (n * n) * ((a + 709) * (a + 709)) := by omega
    have h7 := Int.le_of_mul_le_mul_left h6 hnn
    exact le_of_sq (by omega) (by omega)
  · apply Classical.byContradiction
    intro hc
    have hm : 0 ≤ a - 709 := by omega
    have h8 : 1000000 * (ux * ux + uy * uy) ≤ (a - 709) * (a - 709) := by
      have := Int.mul_le_mul (show r + 1 ≤ a - 709 by omega) (show r + 1 ≤ a - 709 by omega) (by omega) hm
      omega
    have hT : (1000 * (n * ux)) * (1000 * (n * ux)) + (1000 * (n * uy)) * (1000 * (n * uy)) ≤ (n * (a - 709)) * (n * (a - 709)) := by
      rw [eT]
      have := Int.mul_le_mul_of_nonneg_left h8 (Int.le_of_lt hnn)
      have e : (n * (a - 709)) * (n * (a - 709)) = (n * n) * ((a - 709) * (a - 709)) := by grind
      omega
    have hY' : (-(1000 * (n * ux - a * wx))) * (-(1000 * (n * ux - a * wx))) + (-(1000 * (n * uy - a * wy))) * (-(1000 * (n * uy - a * wy))) ≤ (708 * n) * (708 * n) := by
      rw [Int.neg_mul_neg, Int.neg_mul_neg]; exact hY
    have h := sum_le (Int.mul_nonneg (by omega) hm) (show 0 ≤ 708 * n by omega) hT hY'
    have e1 : 1000 * (n * ux) + -(1000 * (n * ux - a * wx)) = 1000 * (a * wx) := by omega
    have e2 : 1000 * (n * uy) + -(1000 * (n * uy - a * wy)) = 1000 * (a * wy) := by omega
    rw [e1, e2, eX] at h
    have e3 : n * (a - 709) + 708 * n = n * (a - 1) := by grind
    rw [e3] at h
    have h9 := Int.mul_le_mul_of_nonneg_left hn1 haa
    have e4 : (n * (a - 1)) * (n * (a - 1)) = (n * n) * ((a - 1) * (a - 1)) := by grind
    have e5 : a * a * (n * n) = (n * n) * (a * a) := by grind
    have h10 : (n * n) * (a * a) ≤ (n * n) * ((a - 1) * (a - 1)) := by omega
    have h11 := Int.le_of_mul_le_mul_left h10 hnn
    have e6 : (a - 1) * (a - 1) = a * a - 2 * a + 1 := by grind
    omega
/-- A rounded quotient is near. -/
theorem rdiv_near {x n : Int} (h : 0 < n) : -n ≤ 2 * (n * rdiv x n - x) ∧ 2 * (n * rdiv x n - x) ≤ n := by
  have key : ∀ y : Int, 0 ≤ y → -n ≤ 2 * (n * ((2 * y + n).tdiv (2 * n)) - y) ∧ 2 * (n * ((2 * y + n).tdiv (2 * n)) - y) ≤ n := by
    intro y hy
    rw [Int.tdiv_eq_ediv_of_nonneg (by omega)]
    have h1 := Int.emod_nonneg (2 * y + n) (show 2 * n ≠ 0 by omega)
    have h2 := Int.emod_lt_of_pos (2 * y + n) (show 0 < 2 * n by omega)
    have h3 := Int.mul_ediv_add_emod (2 * y + n) (2 * n)
    have e : 2 * n * ((2 * y + n) / (2 * n)) = 2 * (n * ((2 * y + n) / (2 * n))) := Int.mul_assoc ..
    omega
  unfold rdiv
  split
  · have := key (-x) (by omega)
    rw [Int.mul_neg]
    omega
  · exact key x (by omega)
theorem seg_spec {p q : Spot} (hp : G p) (hq : G q) : 0 ≤ seg p q ∧ seg p q * seg p q ≤ 1000000 * sq p q ∧ 1000000 * sq p q < (seg p q + 1) * (seg p q + 1) := by
  have := sq_range hp hq
  exact isq_spec (by omega) (by omega)
theorem near_from {p q : Spot} {a : Int} (hp : G p) (hq : G q) (hn : 1000 ≤ seg p q) (h0 : 0 ≤ a) (h1 : a ≤ seg p q) : seg p (onSeg p q a) ≤ a + 709 ∧ a ≤ seg p (onSeg p q a) + 709 := by
  have gg := onSeg_G hp hq h0 h1 (by omega)
  obtain ⟨_, n1, n2⟩ := seg_spec hp hq
  obtain ⟨r0, r1, r2⟩ := seg_spec hp gg
  have nx := rdiv_near (x := a * (q.x - p.x)) (n := seg p q) (by omega)
  have ny := rdiv_near (x := a * (q.y - p.y)) (n := seg p q) (by omega)
  have ex : (onSeg p q a).x - p.x = rdiv (a * (q.x - p.x)) (seg p q) := by simp only [onSeg]; omega
  have ey : (onSeg p q a).y - p.y = rdiv (a * (q.y - p.y)) (seg p q) := by simp only [onSeg]; omega
  unfold sq at n1 n2 r1 r2
  rw [ex, ey] at r1 r2
  exact near_len hn n1 n2 h0 h1 nx.1 nx.2 ny.1 ny.2 r0 r1 r2
theorem near_to {p q : Spot} {a : Int} (hp : G p) (hq : G q) (hn : 1000 ≤ seg p q) (h0 : 0 ≤ a) (h1 : a ≤ seg p q) : seg (onSeg p q a) q ≤ seg p q - a + 709 ∧ seg p q - a ≤ seg (onSeg p q a) q + 709 := by
  have gg := onSeg_G hp hq h0 h1 (by omega)
  obtain ⟨_, n1, n2⟩ := seg_spec hp hq
  obtain ⟨r0, r1, r2⟩ := seg_spec gg hq
  have nx := rdiv_near (x := a * (q.x - p.x)) (n := seg p q) (by omega)
  have ny := rdiv_near (x := a * (q.y - p.y)) (n := seg p q) (by omega)
  have ex : q.x - (onSeg p q a).x = q.x - p.x - rdiv (a * (q.x - p.x)) (seg p q) := by simp only [onSeg]; omega
  have ey : q.y - (onSeg p q a).y = q.y - p.y - rdiv (a * (q.y - p.y)) (seg p q) := by simp only [onSeg]; omega
  unfold sq at n1 n2 r1 r2
  rw [ex, ey] at r1 r2
  have e1 : ∀ n w a t : Int, n * (w - t) - (n - a) * w = -(n * t - a * w) := fun n w a t => by grind
  have fx := e1 (seg p q) (q.x - p.x) a (rdiv (a * (q.x - p.x)) (seg p q))
  have fy := e1 (seg p q) (q.y - p.y) a (rdiv (a * (q.y - p.y)) (seg p q))
  exact near_len hn n1 n2 (show 0 ≤ seg p q - a by omega) (by omega) (by omega) (by omega) (by omega) (by omega) r0 r1 r2
end Go.Ab
