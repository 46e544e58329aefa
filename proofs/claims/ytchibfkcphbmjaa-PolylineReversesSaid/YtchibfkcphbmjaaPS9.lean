/- A part of the proof. Conditions: those of each theorem. -/
import Derived.Test.YtchibfkcphbmjaaPS8
import Derived.Test.YtchibfkcphbmjaaLReversesW
set_option linter.unusedVariables false
set_option linter.unusedSimpArgs false
set_option linter.unusedSectionVars false

namespace Go.Ab
open Go.Proofs
set_option maxRecDepth 10000
set_option linter.unusedVariables false

theorem adj_rev {l : List Spot} (h : Adj l) : Adj l.reverse := by
  obtain ⟨i, i0, i1, e⟩ := h
  refine ⟨l.length - i, by omega, by simp; omega, ?_⟩
  rw [ai_reverse (by omega) (by omega), ai_reverse (by omega) (by omega), show (l.length : Int) - 1 - (l.length - i) = i - 1 by omega, show (l.length : Int) - 1 - (l.length - i - 1) = i by omega]
  exact e.symm
theorem adj_rev_iff {l : List Spot} : Adj l.reverse ↔ Adj l := ⟨fun h => by have := adj_rev h; rwa [List.reverse_reverse] at this, adj_rev⟩
theorem check_rev (l : List Spot) : check l.reverse = check l := by
  unfold check
  simp only [List.length_reverse, List.all_reverse]
  by_cases h : Adj l
  · rw [if_pos h, if_pos (adj_rev_iff.2 h)]
  · rw [if_neg h, if_neg (mt adj_rev_iff.1 h)]
theorem line_rev {l : List Spot} (h : Line l) : Line l.reverse := check_zero.1 (by rw [check_rev]; exact check_zero.2 h)
theorem upTo_rev {l : List Spot} : ∀ {i : Int}, 0 ≤ i → i < l.length → upTo l.reverse i = total l - upTo l (l.length - 1 - i) := by
  intro i hi
  obtain ⟨k, rfl⟩ : ∃ k : Nat, i = k := ⟨i.toNat, by omega⟩
  clear hi
  induction k with
  | zero => intro _; simp [upTo_zero, total]
  | succ k ih =>
    intro h
    have e := upTo_step l.reverse (i := ((k + 1 : Nat) : Int)) (by omega)
    have e' := upTo_step l (i := (l.length : Int) - 1 - k) (by omega)
    have hk := ih (by omega)
    rw [show ((k + 1 : Nat) : Int) - 1 = k by omega, ai_reverse (by omega) (by omega), ai_reverse (by omega) (by omega), show (l.length : Int) - 1 - ((k + 1 : Nat) : Int) = l.length - 1 - k - 1 by omega, seg_symm] at e
    rw [show (l.length : Int) - 1 - ((k + 1 : Nat) : Int) = l.length - 1 - k - 1 by omega]
    omega
theorem total_rev {l : List Spot} (h : Line l) : total l.reverse = total l := by
  have := h.two
  rw [total, upTo_rev (by simp; omega) (by simp; omega)]
  simp only [List.length_reverse]
  rw [show (l.length : Int) - 1 - ((l.length : Int) - 1) = 0 by omega, upTo_zero]; omega
/-- From both ends the same point, but for 1. -/
theorem near_one {n a d r1 r2 : Int} (hn : 0 < n) (h1 : -n ≤ 2 * (n * r1 - a * d)) (h1' : 2 * (n * r1 - a * d) ≤ n) (h2 : -n ≤ 2 * (n * r2 - (n - a) * (-d))) (h2' : 2 * (n * r2 - (n - a) * (-d)) ≤ n) : r1 - r2 - d ≤ 1 ∧ -1 ≤ r1 - r2 - d := by
  have e : (n * r1 - a * d) - (n * r2 - (n - a) * (-d)) = n * (r1 - r2 - d) := by grind
  constructor
  · apply Classical.byContradiction; intro hc
    have := Int.mul_le_mul_of_nonneg_left (show 2 ≤ r1 - r2 - d by omega) (Int.le_of_lt hn)
    omega
  · apply Classical.byContradiction; intro hc
    have := Int.mul_le_mul_of_nonneg_left (show r1 - r2 - d ≤ -2 by omega) (Int.le_of_lt hn)
    omega
theorem both_ends {p q : Spot} {a : Int} (h : 0 < seg p q) : let u := onSeg p q a; let v := onSeg q p (seg p q - a); u.x - v.x ≤ 1 ∧ v.x - u.x ≤ 1 ∧ u.y - v.y ≤ 1 ∧ v.y - u.y ≤ 1 := by
  have hs := seg_symm q p
  have x1 := rdiv_near (x := a * (q.x - p.x)) h
  have y1 := rdiv_near (x := a * (q.y - p.y)) h
  have x2 := rdiv_near (x := (seg p q - a) * (p.x - q.x)) h
  have y2 := rdiv_near (x := (seg p q - a) * (p.y - q.y)) h
  rw [show p.x - q.x = -(q.x - p.x) by omega] at x2
  rw [show p.y - q.y = -(q.y - p.y) by omega] at y2
  have nx := near_one h x1.1 x1.2 x2.1 x2.2
  have ny := near_one h y1.1 y1.2 y2.1 y2.2
  simp only [onSeg, hs]
  rw [show p.x - q.x = -(q.x - p.x) by omega, show p.y - q.y = -(q.y - p.y) by omega]
  omega
theorem law_reverses (l : List Spot) (a : Int) (ha : InU32 a) : Ret Try.prog XS 7 [.sl 2 (l.map cSpot), .sc (.int .u32 a)] (boo true) := by
  refine garmentlaw10_PolylineReverses_W l a _ ⟨fun _ => ⟨_, ret_alive, rfl⟩, fun h60 => ⟨_, ret_reverse l (by omega), _, _, ret_length l, _, _, ret_length _, ?_⟩⟩
  rw [check_rev]
  have rr : Ret Try.prog XS 19 [.sl 2 (l.reverse.map cSpot)] (.fr 2 (l.map cSpot)) := by
    have := ret_reverse l.reverse (by simp; omega)
    rwa [List.reverse_reverse] at this
  have sm : Ret Try.prog XS 14 [.sl 2 (l.map cSpot), .sl 2 (l.map cSpot)] (boo true) := by
    have := ret_same l l (by omega)
    simpa using this
  by_cases hc : check l = 0
  · have hl := check_zero.1 hc
    have hr := line_rev hl
    rw [if_pos hc, if_pos hc, total_rev hl]
    have tr := total_range hl
    have sr := tmod_range ha.1 (show 0 ≤ total l by omega)
    refine ⟨fun _ => ⟨fun _ => ⟨_, rr, _, sm, fun _ => ⟨fun _ => ?_, fun h => absurd hc h⟩, fun h => by cases h⟩, fun h => absurd rfl h⟩, fun h => absurd rfl h⟩
    rw [show max (total l) 0 = total l by omega]
    refine ⟨⟨by have := ha.1; omega, by have := ha.2; omega⟩, ⟨by omega, by omega⟩, by omega, ?_⟩
    generalize a.tmod (total l + 1) = s at sr ⊢
    have hi := idx_is hl.two s
    have i1 := hi.one
    have i2 := hi.lt
    have o := onIt hl sr.1 sr.2 hi
    have on := o.ne
    have st := upTo_step l i1
    have u1 := upTo_rev (l := l) (i := (l.length : Int) - idx l s) (by omega) (by omega)
    have u0 := upTo_rev (l := l) (i := (l.length : Int) - idx l s - 1) (by omega) (by omega)
    rw [show (l.length : Int) - 1 - (l.length - idx l s) = idx l s - 1 by omega] at u1
    rw [show (l.length : Int) - 1 - (l.length - idx l s - 1) = idx l s by omega] at u0
    have ol := o.lo
    have oh := o.hi
    have pr := pt_any hr (s := total l - s) (m := (l.length : Int) - idx l s) (by omega) (by simp; omega) (by omega) (by omega)
    rw [u0, ai_reverse (by omega) (by omega), ai_reverse (by omega) (by omega), show (l.length : Int) - 1 - (l.length - idx l s - 1) = idx l s by omega, show (l.length : Int) - 1 - (l.length - idx l s) = idx l s - 1 by omega,
      show total l - s - (total l - upTo l (idx l s)) = seg (ai l (idx l s - 1)) (ai l (idx l s)) - (s - upTo l (idx l s - 1)) by omega] at pr
    have be := both_ends (p := ai l (idx l s - 1)) (q := ai l (idx l s)) (a := s - upTo l (idx l s - 1)) (by omega)
    have eP : pt l s = onSeg (ai l (idx l s - 1)) (ai l (idx l s)) (s - upTo l (idx l s - 1)) := rfl
    simp only [← pr, ← eP] at be
    have g1 : G (pt l s) := onSeg_G o.G1 o.G2 ol oh (by omega)
    have ir := idx_is hr.two (total l - s)
    have tr2 := total_rev hl
    have o2 := onIt hr (s := total l - s) (by omega) (by omega) ir
    have g2 : G (pt l.reverse (total l - s)) := onSeg_G o2.G1 o2.G2 o2.lo o2.hi (by have := o2.ne; omega)
    obtain ⟨⟨a1, a2⟩, a3, a4⟩ := g1
    obtain ⟨⟨b1, b2⟩, b3, b4⟩ := g2
    refine ⟨_, _, along_is hl sr.1 sr.2, ⟨by omega, by omega⟩, _, _, along_is hr (by omega) (by omega), fun _ => ⟨fun _ => ⟨⟨by omega, by omega⟩, fun _ => ⟨⟨by omega, by omega⟩, fun _ => ⟨⟨by omega, by omega⟩, fun _ => ⟨⟨by omega, by omega⟩, fun _ => ⟨_, ret_alive, rfl⟩, fun h => by omega⟩, fun h => by omega⟩, fun h => by omega⟩, fun h => by omega⟩, fun h => absurd rfl h⟩, fun h => absurd rfl h⟩
  · rw [if_neg hc, if_neg hc]
    exact ⟨fun _ => ⟨fun _ => ⟨_, rr, _, sm, fun _ => ⟨fun h => absurd h hc, fun _ => ⟨_, ret_alive, rfl⟩⟩, fun h => by cases h⟩, fun h => absurd rfl h⟩, fun h => absurd rfl h⟩
end Go.Ab
