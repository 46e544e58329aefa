/- A part of the proof. Conditions: those of each theorem. -/
import Derived.Test.YtchibfkcphbmjaaPS4
set_option linter.unusedVariables false
set_option linter.unusedSimpArgs false
set_option linter.unusedSectionVars false

section
namespace Go.Ab
open Go.Proofs
set_option maxRecDepth 10000
set_option linter.unusedVariables false

theorem ext_ai {l l' : List Spot} (h : l.length = l'.length) (he : ∀ j : Int, 0 ≤ j → j < l.length → ai l j = ai l' j) : l = l' := by
  refine List.ext_getElem h fun i hi hi' => ?_
  rw [← ai_nat hi, ← ai_nat hi']; exact he i (by omega) (by omega)
theorem ai_append {l r : List Spot} {j : Int} (h : 0 ≤ j) : ai (l ++ r) j = if j < l.length then ai l j else ai r (j - l.length) := by
  unfold ai
  split
  · rw [List.getD_eq_getElem?_getD, List.getD_eq_getElem?_getD, List.getElem?_append_left (by omega)]
  · rw [List.getD_eq_getElem?_getD, List.getD_eq_getElem?_getD, List.getElem?_append_right (by omega), show (j - (l.length : Int)).toNat = j.toNat - l.length by omega]
theorem ai_one (x : Spot) : ai [x] 0 = x := rfl
theorem cut_length {l : List Spot} {a b : Int} (h : Slc a b l.length) : (cut l a b).length = (b - a).toNat := by
  obtain ⟨h0, h1, h2⟩ := h
  simp only [cut, List.length_drop, List.length_take]; omega
theorem ai_cut {l : List Spot} {a b j : Int} (h : Slc a b l.length) (h0 : 0 ≤ j) (h1 : j < b - a) : ai (cut l a b) j = ai l (a + j) := by
  obtain ⟨g0, g1, g2⟩ := h
  unfold ai cut
  rw [List.getD_eq_getElem?_getD, List.getD_eq_getElem?_getD, List.getElem?_drop, List.getElem?_take_of_lt (by omega), show a.toNat + j.toNat = (a + j).toNat by omega]
theorem ai_set {l : List Spot} {i j : Int} {x : Spot} (hi : Idx i l.length) (hj : Idx j l.length) : ai (l.set i.toNat x) j = if j = i then x else ai l j := by
  unfold ai
  rw [List.getD_eq_getElem?_getD, List.getD_eq_getElem?_getD, List.getElem?_set]
  by_cases e : j = i
  · subst e; rw [if_pos rfl, if_pos rfl, if_pos (by omega)]; rfl
  · rw [if_neg (by omega), if_neg e]
theorem ret_reverse (l : List Spot) (hl : l.length ≤ 1000) : Ret Try.prog XS 19 [.sl 2 (l.map cSpot)] (.fr 2 (l.reverse.map cSpot)) := by
  refine polyline_Reverse_W l _ (fun v w => 0 ≤ v ∧ v ≤ l.length ∧ w.length = l.length ∧ ∀ j : Int, l.length - v ≤ j → j < l.length → ai w j = ai l (l.length - 1 - j)) (fun v w => (l.length - v).toNat) ⟨by omega, by omega, by omega, by omega, by omega, by simp, fun j _ _ => by omega⟩ ?_
  rintro v w ⟨h0, h1, h2, h3⟩
  refine ⟨fun hlt => ⟨⟨h0, hlt⟩, ⟨by omega, by omega⟩, ⟨by omega, by omega⟩, ⟨by omega, by omega⟩, ⟨by omega, by omega⟩, ⟨by omega, by omega, by simpa using h2, fun j j0 j1 => ?_⟩, by dsimp only; omega⟩, fun hlt => ?_⟩
  · rw [ai_set ⟨by omega, by omega⟩ ⟨by omega, by omega⟩]
    split
    · rename_i e; rw [e, show (l.length : Int) - 1 - (l.length - 1 - v) = v by omega]
    · exact h3 j (by omega) j1
  · symm
    refine ext_ai (by simpa using h2) fun j j0 j1 => ?_
    rw [h3 j (by omega) (by omega)]
    unfold ai
    rw [List.getD_eq_getElem?_getD, List.getD_eq_getElem?_getD, List.getElem?_reverse (by omega), show ((l.length : Int) - 1 - j).toNat = l.length - 1 - j.toNat by omega]
theorem ai_reverse {l : List Spot} {j : Int} (h0 : 0 ≤ j) (h1 : j < l.length) : ai l.reverse j = ai l (l.length - 1 - j) := by
  unfold ai
  rw [List.getD_eq_getElem?_getD, List.getD_eq_getElem?_getD, List.getElem?_reverse (by omega), show ((l.length : Int) - 1 - j).toNat = l.length - 1 - j.toNat by omega]
/-- Vertices moved. -/
def moved (l : List Spot) (d : Spot) : List Spot := l.map fun s => ⟨IntKind.wrap .i64 (s.x + d.x), IntKind.wrap .i64 (s.y + d.y)⟩
theorem ai_map {l : List Spot} {f : Spot → Spot} {j : Int} (h : Idx j l.length) : ai (l.map f) j = f (ai l j) := by
  unfold ai
  rw [List.getD_eq_getElem?_getD, List.getElem?_map, ai_some h]; rfl
theorem ret_move (l : List Spot) (d : Spot) (hl : l.length ≤ 1000) : Ret Try.prog XS 20 [.sl 2 (l.map cSpot), .agg [int d.x, int d.y]] (.fr 2 ((moved l d).map cSpot)) := by
  refine polyline_Move_W l d _ (fun v w => 0 ≤ v ∧ v ≤ l.length ∧ w.length = l.length ∧ ∀ j : Int, 0 ≤ j → j < v → ai w j = ai (moved l d) j) (fun v w => (l.length - v).toNat) ⟨by omega, by omega, by omega, by omega, by omega, by simp, fun j _ _ => by omega⟩ ?_
  rintro v w ⟨h0, h1, h2, h3⟩
  refine ⟨fun hlt => ⟨⟨h0, hlt⟩, ⟨by omega, by omega⟩, ⟨by omega, by omega⟩, ⟨by omega, by omega, by simpa using h2, fun j j0 j1 => ?_⟩, by dsimp only; omega⟩, fun hlt => ?_⟩
  · rw [ai_set ⟨by omega, by omega⟩ ⟨by omega, by omega⟩]
    split
    · rename_i e; subst e; rw [moved, ai_map ⟨by omega, by omega⟩]
    · exact h3 j (by omega) (by omega)
  · symm
    refine ext_ai (by simpa [moved] using h2) fun j j0 j1 => h3 j j0 (by omega)

/-! Lengths of lists that are alike. -/
theorem upTo_alike {l l' : List Spot} {o : Int} (ho : 0 ≤ o) : ∀ {i : Int}, 0 ≤ i → (∀ j : Int, 1 ≤ j → j ≤ i → seg (ai l (j - 1)) (ai l j) = seg (ai l' (o + j - 1)) (ai l' (o + j))) → upTo l i = upTo l' (o + i) - upTo l' o := by
  intro i hi
  obtain ⟨k, rfl⟩ : ∃ k : Nat, i = k := ⟨i.toNat, by omega⟩
  clear hi
  induction k with
  | zero => intro _; simp [upTo_zero]
  | succ k ih =>
    intro h
    have e := upTo_step l (i := ((k + 1 : Nat) : Int)) (by omega)
    have e' := upTo_step l' (i := o + ((k + 1 : Nat) : Int)) (by omega)
    have hk := ih fun j j0 j1 => h j j0 (by omega)
    have hs := h ((k + 1 : Nat) : Int) (by omega) (by omega)
    rw [show ((k + 1 : Nat) : Int) - 1 = k by omega] at e hs
    rw [show o + ((k + 1 : Nat) : Int) - 1 = o + k by omega] at e' hs
    omega
theorem seg_symm (p q : Spot) : seg p q = seg q p := by
  unfold seg sq
  rw [← Int.neg_mul_neg (q.x - p.x), ← Int.neg_mul_neg (q.y - p.y), Int.neg_sub, Int.neg_sub]
theorem isq_zero : isq 0 = 0 := by rfl
theorem seg_self (p : Spot) : seg p p = 0 := by
  unfold seg sq
  simp only [Int.sub_self, Int.mul_zero, Int.add_zero]
  exact isq_zero
theorem rdiv_full {n d : Int} (h : 0 < n) : rdiv (n * d) n = d := by
  have key : ∀ e : Int, 0 ≤ e → (2 * (n * e) + n).tdiv (2 * n) = e := by
    intro e he
    have := Int.mul_nonneg (Int.le_of_lt h) he
    rw [Int.tdiv_eq_ediv_of_nonneg (by omega), show 2 * (n * e) + n = n + e * (2 * n) by rw [Int.mul_comm e, Int.mul_assoc]; omega, Int.add_mul_ediv_right _ _ (by omega), Int.ediv_eq_zero_of_lt (by omega) (by omega)]
    omega
  unfold rdiv
  split
  · rename_i hc
    have hd : d < 0 := by
      apply Classical.byContradiction; intro h2
      have := Int.mul_nonneg (Int.le_of_lt h) (show 0 ≤ d by omega); omega
    rw [← Int.mul_neg, key (-d) (by omega)]; omega
  · rename_i hc
    have hd : 0 ≤ d := by
      apply Classical.byContradiction; intro h2
      have := Int.mul_lt_mul_of_pos_left (show d < 0 by omega) h; omega
    exact key d hd
theorem onSeg_zero {p q : Spot} (h : 0 < seg p q) : onSeg p q 0 = p := by
  unfold onSeg
  rw [Int.zero_mul, Int.zero_mul, rdiv_zero h]; cases p; simp
theorem onSeg_full {p q : Spot} (h : 0 < seg p q) : onSeg p q (seg p q) = q := by
  unfold onSeg
  rw [rdiv_full h, rdiv_full h]; cases p; cases q; simp; omega
theorem upTo_lt {l : List Spot} (h : Line l) {i j : Int} (h0 : 0 ≤ i) (h1 : i < j) (h2 : j < l.length) : upTo l i < upTo l j := by
  have e := upTo_step l (i := j) (by omega)
  have g1 := h.at (i := j - 1) ⟨by omega, by omega⟩
  have g2 := h.at (i := j) ⟨by omega, by omega⟩
  have := seg_pos g1 g2 fun e => h.step ⟨j, by omega, h2, e⟩
  have := upTo_mono h (i := i) (j := j - 1) h0 (by omega) (by omega)
  omega
/-- The point at a length, out of any segment on which it lies. -/
theorem pt_any {l : List Spot} (hl : Line l) {s m : Int} (h1 : 1 ≤ m) (h2 : m < l.length) (h3 : upTo l (m - 1) ≤ s) (h4 : s ≤ upTo l m) : pt l s = onSeg (ai l (m - 1)) (ai l m) (s - upTo l (m - 1)) := by
  have hi := idx_is hl.two s
  have i1 := hi.one
  have i2 := hi.lt
  have u0 := upTo_range' hl (i := m - 1) (by omega) (by omega)
  have tm := upTo_mono hl (i := m) (j := (l.length : Int) - 1) (by omega) (by omega) (by omega)
  have o := onIt hl (s := s) (by omega) (by show s ≤ upTo l ((l.length : Int) - 1); omega) hi
  have hle : idx l s ≤ m := by
    apply Classical.byContradiction; intro hc
    have := hi.on m h1 (by omega); omega
  by_cases e : idx l s = m
  · rw [pt, e]
  · have hst : s ≤ upTo l (idx l s) := by
      rcases hi.stop with h | h
      · exact h
      · omega
    have hm := upTo_mono hl (i := idx l s) (j := m - 1) (by omega) (by omega) (by omega)
    have em : idx l s = m - 1 := by
      apply Classical.byContradiction; intro hc
      have := upTo_lt hl (i := idx l s) (j := m - 1) (by omega) (by omega) (by omega); omega
    have es : s = upTo l (m - 1) := by rw [← em]; rw [← em] at h3; omega
    have st := upTo_step l i1
    have g1 := hl.at (i := m - 1) ⟨by omega, by omega⟩
    have g2 := hl.at (i := m) ⟨by omega, by omega⟩
    have sp := seg_pos g1 g2 fun e => hl.step ⟨m, h1, h2, e⟩
    have on := o.ne
    rw [show s - upTo l (m - 1) = 0 by omega, onSeg_zero (by omega), pt, show s - upTo l (idx l s - 1) = seg (ai l (idx l s - 1)) (ai l (idx l s)) by rw [em] at st ⊢; omega, onSeg_full (by omega), em]
/-! No equal neighbours. -/
theorem adj_snoc {l : List Spot} {x : Spot} (h : ¬ Adj (l ++ [x])) : ¬ Adj l ∧ (0 < l.length → ai l ((l.length : Int) - 1) ≠ x) := by
  constructor
  · rintro ⟨i, i0, i1, e⟩
    refine h ⟨i, i0, by simp; omega, ?_⟩
    rw [ai_append (by omega), ai_append (by omega), if_pos (by omega), if_pos (by omega)]; exact e
  · intro hp e
    refine h ⟨l.length, by omega, by simp; omega, ?_⟩
    rw [ai_append (by omega), ai_append (by omega), if_neg (by omega), if_pos (by omega), e, show (l.length : Int) - l.length = 0 by omega]; rfl
theorem adj_to_snoc {l : List Spot} {x : Spot} (h : ¬ Adj l) (hx : ai l ((l.length : Int) - 1) ≠ x) : ¬ Adj (l ++ [x]) := by
  rintro ⟨i, i0, i1, e⟩
  simp only [List.length_append, List.length_cons, List.length_nil] at i1
  by_cases c : i < l.length
  · rw [ai_append (by omega), ai_append (by omega), if_pos c, if_pos (by omega)] at e
    exact h ⟨i, i0, c, e⟩
  · have ei : i = l.length := by omega
    subst ei
    rw [ai_append (by omega), ai_append (by omega), if_neg c, if_pos (by omega), show (l.length : Int) - l.length = 0 by omega] at e
    exact hx e.symm
theorem adj_to_cons {l : List Spot} {x : Spot} (h : ¬ Adj l) (hx : x ≠ ai l 0) : ¬ Adj ([x] ++ l) := by
  rintro ⟨i, i0, i1, e⟩
  simp only [List.length_append, List.length_cons, List.length_nil] at i1
  by_cases c : i = 1
  · subst c
    rw [ai_append (by omega), ai_append (by omega), if_neg (by simp), if_pos (by simp)] at e
    exact hx e.symm
  · rw [ai_append (by omega), ai_append (by omega), if_neg (by simp; omega), if_neg (by simp; omega)] at e
    simp only [List.length_cons, List.length_nil] at e
    exact h ⟨i - 1, by omega, by omega, by simpa using e⟩
theorem dd_same {l : List Spot} : ¬ Adj l → dd l = l := by
  refine snoc_ind (p := fun l => ¬ Adj l → dd l = l) (fun _ => rfl) (fun l x ih h => ?_) l
  obtain ⟨h1, h2⟩ := adj_snoc h
  rw [dd_snoc', ih h1]
  split
  · rename_i e
    exfalso
    by_cases c : 0 < l.length
    · rw [last_ai c] at e; exact h2 c (Option.some.inj e)
    · have : l = [] := List.length_eq_zero_iff.1 (by omega)
      subst this; cases e
  · rfl
theorem dd_cons_eq {l : List Spot} {x : Spot} : 0 < l.length → x = ai l 0 → dd ([x] ++ l) = dd l := by
  refine snoc_ind (p := fun l => 0 < l.length → x = ai l 0 → dd ([x] ++ l) = dd l) (fun h => by simp at h) (fun l y ih _ e => ?_) l
  rw [← List.append_assoc, dd_snoc', dd_snoc' l]
  by_cases c : 0 < l.length
  · have e' : x = ai l 0 := by rw [e, ai_append (by omega), if_pos (by omega)]
    rw [ih c e', show ([x] ++ l).getLast? = l.getLast? by rw [List.getLast?_append]; cases h : l.getLast? with
      | none => rw [List.getLast?_eq_none_iff] at h; subst h; simp at c
      | some z => rfl]
  · have : l = [] := List.length_eq_zero_iff.1 (by omega)
    subst this
    have e : x = y := e
    subst e
    simp [dd]
theorem fx_two {l : List Spot} (h : 2 ≤ l.length) : fx l = l := by rw [fx, if_neg (by omega)]
/-- A part of a polyline. -/
theorem adj_cut {l : List Spot} (h : ¬ Adj l) {a b : Int} (hs : Slc a b l.length) : ¬ Adj (cut l a b) := by
  obtain ⟨h0, h1, h2⟩ := hs
  rintro ⟨i, i0, i1, e⟩
  rw [cut_length ⟨h0, h1, h2⟩] at i1
  rw [ai_cut ⟨h0, h1, h2⟩ (by omega) (by omega), ai_cut ⟨h0, h1, h2⟩ (by omega) (by omega)] at e
  exact h ⟨a + i, by omega, by omega, by rw [e]; congr 1; omega⟩
theorem grid_cut {l : List Spot} (h : ∀ p, p ∈ l → G p) {a b : Int} : ∀ p, p ∈ cut l a b → G p := fun p hp => h p (List.mem_of_mem_take (List.mem_of_mem_drop hp))
theorem upTo_cut {l : List Spot} {a b i : Int} (hs : Slc a b l.length) (h0 : 0 ≤ i) (h1 : i < b - a) : upTo (cut l a b) i = upTo l (a + i) - upTo l a := by
  obtain ⟨g0, g1, g2⟩ := hs
  refine upTo_alike g0 h0 fun j j0 j1 => ?_
  rw [ai_cut ⟨g0, g1, g2⟩ (by omega) (by omega), ai_cut ⟨g0, g1, g2⟩ (by omega) (by omega), show a + (j - 1) = a + j - 1 by omega]
end Go.Ab
end

section
namespace Go.Ab
open Go.Proofs
set_option maxRecDepth 10000
set_option linter.unusedVariables false

/-! How far a rounded point is. -/
theorem le_of_sq {x y : Int} (hy : 0 ≤ y) (h : x * x ≤ y * y) : x ≤ y := by
  apply Classical.byContradiction; intro hc
  have := Int.mul_le_mul (show y + 1 ≤ x by omega) (show y + 1 ≤ x by omega) (by omega) (by omega)
  have e : (y + 1) * (y + 1) = y * y + 2 * y + 1 := by grind
  omega
theorem cauchy (a b c d : Int) : (a * c + b * d) * (a * c + b * d) ≤ (a * a + b * b) * (c * c + d * d) := by
  have e : (a * a + b * b) * (c * c + d * d) = (a * c + b * d) * (a * c + b * d) + (a * d - b * c) * (a * d - b * c) := by grind
  have := sq_nn (a * d - b * c)
  omega
theorem dot_le {a b c d P Q : Int} (hP : 0 ≤ P) (hQ : 0 ≤ Q) (h1 : a * a + b * b ≤ P * P) (h2 : c * c + d * d ≤ Q * Q) : a * c + b * d ≤ P * Q := by
  have h3 := cauchy a b c d
  have h4 : (a * a + b * b) * (c * c + d * d) ≤ (P * P) * (Q * Q) := Int.mul_le_mul h1 h2 (by have := sq_nn c; have := sq_nn d; omega) (Int.mul_nonneg hP hP)
  have e : (P * P) * (Q * Q) = (P * Q) * (P * Q) := by grind
  exact le_of_sq (Int.mul_nonneg hP hQ) (by omega)
theorem sum_le {a b c d P Q : Int} (hP : 0 ≤ P) (hQ : 0 ≤ Q) (h1 : a * a + b * b ≤ P * P) (h2 : c * c + d * d ≤ Q * Q) : (a + c) * (a + c) + (b + d) * (b + d) ≤ (P + Q) * (P + Q) := by
  have h3 := dot_le hP hQ h1 h2
  have e : (a + c) * (a + c) + (b + d) * (b + d) = (a * a + b * b) + 2 * (a * c + b * d) + (c * c + d * d) := by grind
  have e2 : (P + Q) * (P + Q) = P * P + 2 * (P * Q) + Q * Q := by grind
  omega
theorem near_len {n a wx wy ux uy : Int} (hn : 1000 ≤ n) (hn1 : n * n ≤ 1000000 * (wx * wx + wy * wy)) (hn2 : 1000000 * (wx * wx + wy * wy) < (n + 1) * (n + 1)) (ha0 : 0 ≤ a) (ha1 : a ≤ n)
    (hx : -n ≤ 2 * (n * ux - a * wx)) (hx' : 2 * (n * ux - a * wx) ≤ n) (hy : -n ≤ 2 * (n * uy - a * wy)) (hy' : 2 * (n * uy - a * wy) ≤ n) {r : Int} (hr : 0 ≤ r) (hr1 : r * r ≤ 1000000 * (ux * ux + uy * uy)) (hr2 : 1000000 * (ux * ux + uy * uy) < (r + 1) * (r + 1)) :
    r ≤ a + 709 ∧ a ≤ r + 709 := by
  have sq4 : ∀ e : Int, -n ≤ 2 * e → 2 * e ≤ n → 4 * (e * e) ≤ n * n := by
    intro e h1 h2
    have h3 : (2 * e) * (2 * e) ≤ n * n := by
      rcases Int.le_total 0 e with h | h
      · exact Int.mul_le_mul h2 h2 (by omega) (by omega)
      · have := Int.mul_le_mul (show -(2 * e) ≤ n by omega) (show -(2 * e) ≤ n by omega) (by omega) (by omega)
        rwa [Int.neg_mul_neg] at this
    have : (2 * e) * (2 * e) = 4 * (e * e) := by grind
    omega
  have y1 := sq4 _ hx hx'
  have y2 := sq4 _ hy hy'
  -- Y, a thousand times what rounding adds
  have hY : (1000 * (n * ux - a * wx)) * (1000 * (n * ux - a * wx)) + (1000 * (n * uy - a * wy)) * (1000 * (n * uy - a * wy)) ≤ (708 * n) * (708 * n) := by
    have e1 : ∀ e : Int, (1000 * e) * (1000 * e) = 1000000 * (e * e) := fun e => by grind
    have e2 : (708 * n) * (708 * n) = 501264 * (n * n) := by grind
    rw [e1, e1, e2]
    have := sq_nn n
    omega
  have eX : (1000 * (a * wx)) * (1000 * (a * wx)) + (1000 * (a * wy)) * (1000 * (a * wy)) = (a * a) * (1000000 * (wx * wx + wy * wy)) := by grind
  have eT : (1000 * (n * ux)) * (1000 * (n * ux)) + (1000 * (n * uy)) * (1000 * (n * uy)) = (n * n) * (1000000 * (ux * ux + uy * uy)) := by grind
  have haa := sq_nn a
  have hnn : 0 < n * n := Int.mul_pos (by omega) (by omega)
  constructor
  · have hX : (1000 * (a * wx)) * (1000 * (a * wx)) + (1000 * (a * wy)) * (1000 * (a * wy)) ≤ (a * (n + 1)) * (a * (n + 1)) := by
      rw [eX]
      have := Int.mul_le_mul_of_nonneg_left (Int.le_of_lt hn2) haa
      have e : (a * a) * ((n + 1) * (n + 1)) = (a * (n + 1)) * (a * (n + 1)) := by grind
      omega
    have h := sum_le (Int.mul_nonneg ha0 (by omega)) (show 0 ≤ 708 * n by omega) hX hY
    have e1 : 1000 * (a * wx) + 1000 * (n * ux - a * wx) = 1000 * (n * ux) := by omega
    have e2 : 1000 * (a * wy) + 1000 * (n * uy - a * wy) = 1000 * (n * uy) := by omega
    rw [e1, e2, eT] at h
    have e3 : a * (n + 1) + 708 * n ≤ n * (a + 709) := by
      have : a * (n + 1) = n * a + a := by grind
      have : n * (a + 709) = n * a + 709 * n := by grind
      omega
    have h5 := Int.mul_le_mul e3 e3 (by have := Int.mul_nonneg ha0 (show 0 ≤ n + 1 by omega); omega) (Int.mul_nonneg (by omega) (by omega))
    have e4 : (n * (a + 709)) * (n * (a + 709)) = (n * n) * ((a + 709) * (a + 709)) := by grind
    have h6 : (n * n) * (1000000 * (ux * ux + uy * uy)) ≤ (n * n) * ((a + 709) * (a + 709)) := by omega
    have h7 := Int.le_of_mul_le_mul_left h6 hnn
    exact le_of_sq (by omega) (by omega)
  · apply Classical.byContradiction
    intro hc
    have hm : 0 ≤ a - 709 := by omega
    have h8 : 1000000 * (ux * ux + uy * uy) ≤ (a - 709) * (a - 709) := by
      have := Int.mul_le_mul (show r + 1 ≤ a - 709 by omega) (show r + 1 ≤ a - 709 by omega) (by omega) hm
      omega
    have hT : (1000 * (n * ux)) * (1000 * (n * ux)) + (1000 * (n * uy)) * (1000 * (n * uy)) ≤ (n * (a - 709)) * (n * (a - 709)) := by
      rw [eT]
      have := Int.mul_le_mul_of_nonneg_left h8 (Int.le_of_lt hnn)
      have e : (n * (a - 709)) * (n * (a - 709)) = (n * n) * ((a - 709) * (a - 709)) := by grind
      omega
    have hY' : (-(1000 * (n * ux - a * wx))) * (-(1000 * (n * ux - a * wx))) + (-(1000 * (n * uy - a * wy))) * (-(1000 * (n * uy - a * wy))) ≤ (708 * n) * (708 * n) := by
      rw [Int.neg_mul_neg, Int.neg_mul_neg]; exact hY
    have h := sum_le (Int.mul_nonneg (by omega) hm) (show 0 ≤ 708 * n by omega) hT hY'
    have e1 : 1000 * (n * ux) + -(1000 * (n * ux - a * wx)) = 1000 * (a * wx) := by omega
    have e2 : 1000 * (n * uy) + -(1000 * (n * uy - a * wy)) = 1000 * (a * wy) := by omega
    rw [e1, e2, eX] at h
    have e3 : n * (a - 709) + 708 * n = n * (a - 1) := by grind
    rw [e3] at h
    have h9 := Int.mul_le_mul_of_nonneg_left hn1 haa
    have e4 : (n * (a - 1)) * (n * (a - 1)) = (n * n) * ((a - 1) * (a - 1)) := by grind
    have e5 : a * a * (n * n) = (n * n) * (a * a) := by grind
    have h10 : (n * n) * (a * a) ≤ (n * n) * ((a - 1) * (a - 1)) := by omega
    have h11 := Int.le_of_mul_le_mul_left h10 hnn
    have e6 : (a - 1) * (a - 1) = a * a - 2 * a + 1 := by grind
    omega
/-- A rounded quotient is near. -/
theorem rdiv_near {x n : Int} (h : 0 < n) : -n ≤ 2 * (n * rdiv x n - x) ∧ 2 * (n * rdiv x n - x) ≤ n := by
  have key : ∀ y : Int, 0 ≤ y → -n ≤ 2 * (n * ((2 * y + n).tdiv (2 * n)) - y) ∧ 2 * (n * ((2 * y + n).tdiv (2 * n)) - y) ≤ n := by
    intro y hy
    rw [Int.tdiv_eq_ediv_of_nonneg (by omega)]
    have h1 := Int.emod_nonneg (2 * y + n) (show 2 * n ≠ 0 by omega)
    have h2 := Int.emod_lt_of_pos (2 * y + n) (show 0 < 2 * n by omega)
    have h3 := Int.mul_ediv_add_emod (2 * y + n) (2 * n)
    have e : 2 * n * ((2 * y + n) / (2 * n)) = 2 * (n * ((2 * y + n) / (2 * n))) := Int.mul_assoc ..
    omega
  unfold rdiv
  split
  · have := key (-x) (by omega)
    rw [Int.mul_neg]
    omega
  · exact key x (by omega)
theorem seg_spec {p q : Spot} (hp : G p) (hq : G q) : 0 ≤ seg p q ∧ seg p q * seg p q ≤ 1000000 * sq p q ∧ 1000000 * sq p q < (seg p q + 1) * (seg p q + 1) := by
  have := sq_range hp hq
  exact isq_spec (by omega) (by omega)
theorem near_from {p q : Spot} {a : Int} (hp : G p) (hq : G q) (hn : 1000 ≤ seg p q) (h0 : 0 ≤ a) (h1 : a ≤ seg p q) : seg p (onSeg p q a) ≤ a + 709 ∧ a ≤ seg p (onSeg p q a) + 709 := by
  have gg := onSeg_G hp hq h0 h1 (by omega)
  obtain ⟨_, n1, n2⟩ := seg_spec hp hq
  obtain ⟨r0, r1, r2⟩ := seg_spec hp gg
  have nx := rdiv_near (x := a * (q.x - p.x)) (n := seg p q) (by omega)
  have ny := rdiv_near (x := a * (q.y - p.y)) (n := seg p q) (by omega)
  have ex : (onSeg p q a).x - p.x = rdiv (a * (q.x - p.x)) (seg p q) := by simp only [onSeg]; omega
  have ey : (onSeg p q a).y - p.y = rdiv (a * (q.y - p.y)) (seg p q) := by simp only [onSeg]; omega
  unfold sq at n1 n2 r1 r2
  rw [ex, ey] at r1 r2
  exact near_len hn n1 n2 h0 h1 nx.1 nx.2 ny.1 ny.2 r0 r1 r2
theorem near_to {p q : Spot} {a : Int} (hp : G p) (hq : G q) (hn : 1000 ≤ seg p q) (h0 : 0 ≤ a) (h1 : a ≤ seg p q) : seg (onSeg p q a) q ≤ seg p q - a + 709 ∧ seg p q - a ≤ seg (onSeg p q a) q + 709 := by
  have gg := onSeg_G hp hq h0 h1 (by omega)
  obtain ⟨_, n1, n2⟩ := seg_spec hp hq
  obtain ⟨r0, r1, r2⟩ := seg_spec gg hq
  have nx := rdiv_near (x := a * (q.x - p.x)) (n := seg p q) (by omega)
  have ny := rdiv_near (x := a * (q.y - p.y)) (n := seg p q) (by omega)
  have ex : q.x - (onSeg p q a).x = q.x - p.x - rdiv (a * (q.x - p.x)) (seg p q) := by simp only [onSeg]; omega
  have ey : q.y - (onSeg p q a).y = q.y - p.y - rdiv (a * (q.y - p.y)) (seg p q) := by simp only [onSeg]; omega
  unfold sq at n1 n2 r1 r2
  rw [ex, ey] at r1 r2
  have e1 : ∀ n w a t : Int, n * (w - t) - (n - a) * w = -(n * t - a * w) := fun n w a t => by grind
  have fx := e1 (seg p q) (q.x - p.x) a (rdiv (a * (q.x - p.x)) (seg p q))
  have fy := e1 (seg p q) (q.y - p.y) a (rdiv (a * (q.y - p.y)) (seg p q))
  exact near_len hn n1 n2 (show 0 ≤ seg p q - a by omega) (by omega) (by omega) (by omega) (by omega) (by omega) r0 r1 r2
end Go.Ab
end
