/- A part of the proof. Conditions: those of each theorem. -/
import Derived.Test.YtchibfkcphbmjaaPS4
set_option linter.unusedVariables false
set_option linter.unusedSimpArgs false
set_option linter.unusedSectionVars false

namespace Go.Ab
open Go.Proofs
set_option maxRecDepth 10000
set_option linter.unusedVariables false

theorem ext_ai {l l' : List Spot} (h : l.length = l'.length) (he : ∀ j : Int, 0 ≤ j → j < l.length → ai l j = ai l' j) : l = l' := by
  refine List.ext_getElem h fun i hi hi' => ?_
  rw [← ai_nat hi, ← ai_nat hi']; exact he i (by omega) (by omega)
theorem ai_append {l r : List Spot} {j : Int} (h : 0 ≤ j) : ai (l ++ r) j = if j < l.length then ai l j else ai r (j - l.length) := by
  unfold ai
  split
  · rw [List.getD_eq_getElem?_getD, List.getD_eq_getElem?_getD, List.getElem?_append_left (by omega)]
  · rw [List.getD_eq_getElem?_getD, List.getD_eq_getElem?_getD, List.getElem?_append_right (by omega), show (j - (l.length : Int)).toNat = j.toNat - l.length by omega]
theorem ai_one (x : Spot) : ai [x] 0 = x := rfl
theorem cut_length {l : List Spot} {a b : Int} (h : Slc a b l.length) : (cut l a b).length = (b - a).toNat := by
  obtain ⟨h0, h1, h2⟩ := h
  simp only [cut, List.length_drop, List.length_take]; omega
theorem ai_cut {l : List Spot} {a b j : Int} (h : Slc a b l.length) (h0 : 0 ≤ j) (h1 : j < b - a) : ai (cut l a b) j = ai l (a + j) := by
  obtain ⟨g0, g1, g2⟩ := h
  unfold ai cut
  rw [List.getD_eq_getElem?_getD, List.getD_eq_getElem?_getD, List.getElem?_drop, List.getElem?_take_of_lt (by omega), show a.toNat + j.toNat = (a + j).toNat by omega]
theorem ai_set {l : List Spot} {i j : Int} {x : Spot} (hi : Idx i l.length) (hj : Idx j l.length) : ai (l.set i.toNat x) j = if j = i then x else ai l j := by
  unfold ai
  rw [List.getD_eq_getElem?_getD, List.getD_eq_getElem?_getD, List.getElem?_set]
  by_cases e : j = i
  · subst e; rw [if_pos rfl, if_pos rfl, if_pos (by omega)]; rfl
  · rw [if_neg (by omega), if_neg e]
theorem ret_reverse (l : List Spot) (hl : l.length ≤ 1000) : Ret Try.prog XS 19 [.sl 2 (l.map cSpot)] (.fr 2 (l.reverse.map cSpot)) := by
  refine polyline_Reverse_W l _ (fun v w => 0 ≤ v ∧ v ≤ l.length ∧ w.length = l.length ∧ ∀ j : Int, l.length - v ≤ j → j < l.length → ai w j = ai l (l.length - 1 - j)) (fun v w => (l.length - v).toNat) ⟨by omega, by omega, by omega, by omega, by omega, by simp, fun j _ _ => by omega⟩ ?_
  rintro v w ⟨h0, h1, h2, h3⟩
  refine ⟨fun hlt => ⟨⟨h0, hlt⟩, ⟨by omega, by omega⟩, ⟨by omega, by omega⟩, ⟨by omega, by omega⟩, ⟨by omega, by omega⟩, ⟨by omega, by omega, by simpa using h2, fun j j0 j1 => ?_⟩, by dsimp only; omega⟩, fun hlt => ?_⟩
  · rw [ai_set ⟨by omega, by omega⟩ ⟨by omega, by omega⟩]
    split
    · rename_i e; rw [e, show (l.length : Int) - 1 - (l.length - 1 - v) = v by omega]
    · exact h3 j (by omega) j1
  · symm
    refine ext_ai (by simpa using h2) fun j j0 j1 => ?_
    rw [h3 j (by omega) (by omega)]
    unfold ai
    rw [List.getD_eq_getElem?_getD, List.getD_eq_getElem?_getD, List.getElem?_reverse (by omega), show ((l.length : Int) - 1 - j).toNat = l.length - 1 - j.toNat by omega]
theorem ai_reverse {l : List Spot} {j : Int} (h0 : 0 ≤ j) (h1 : j < l.length) : ai l.reverse j = ai l (l.length - 1 - j) := by
  unfold ai
  rw [List.getD_eq_getElem?_getD, List.getD_eq_getElem?_getD, List.getElem?_reverse (by omega), show ((l.length : Int) - 1 - j).toNat = l.length - 1 - j.toNat by omega]
/-- Vertices moved. -/
def moved (l : List Spot) (d : Spot) : List Spot := l.map fun s => ⟨IntKind.wrap .i64 (s.x + d.x), IntKind.wrap .i64 (s.y + d.y)⟩
theorem ai_map {l : List Spot} {f : Spot → Spot} {j : Int} (h : Idx j l.length) : ai (l.map f) j = f (ai l j) := by
  unfold ai
  rw [List.getD_eq_getElem?_getD, List.getElem?_map, ai_some h]; rfl
theorem ret_move (l : List Spot) (d : Spot) (hl : l.length ≤ 1000) : Ret Try.prog XS 20 [.sl 2 (l.map cSpot), .agg [int d.x, int d.y]] (.fr 2 ((moved l d).map cSpot)) := by
  refine polyline_Move_W l d _ (fun v w => 0 ≤ v ∧ v ≤ l.length ∧ w.length = l.length ∧ ∀ j : Int, 0 ≤ j → j < v → ai w j = ai (moved l d) j) (fun v w => (l.length - v).toNat) ⟨by omega, by omega, by omega, by omega, by omega, by simp, fun j _ _ => by omega⟩ ?_
  rintro v w ⟨h0, h1, h2, h3⟩
  refine ⟨fun hlt => ⟨⟨h0, hlt⟩, ⟨by omega, by omega⟩, ⟨by omega, by omega⟩, ⟨by omega, by omega, by simpa using h2, fun j j0 j1 => ?_⟩, by dsimp only; omega⟩, fun hlt => ?_⟩
  · rw [ai_set ⟨by omega, by omega⟩ ⟨by omega, by omega⟩]
    split
    · rename_i e; subst e; rw [moved, ai_map ⟨by omega, by omega⟩]
    · exact h3 j (by omega) (by omega)
  · symm
    refine ext_ai (by simpa [moved] using h2) fun j j0 j1 => h3 j j0 (by omega)

/-! Lengths of lists that are alike. -/
theorem upTo_alike {l l' : List Spot} {o : Int} (ho : 0 ≤ o) : ∀ {i : Int}, 0 ≤ i → (∀ j : Int, 1 ≤ j → j ≤ i → seg (ai l (j - 1)) (ai l j) = seg (ai l' (o + j - 1)) (ai l' (o + j))) → upTo l i = upTo l' (o + i) - upTo l' o := by
  intro i hi
  obtain ⟨k, rfl⟩ : ∃ k : Nat, i = k := ⟨i.toNat, by omega⟩
  clear hi
  induction k with
  | zero => intro _; simp [upTo_zero]
  | succ k ih =>
    intro h
    have e := upTo_step l (i := ((k + 1 : Nat) : Int)) (by omega)
    have e' := upTo_step l' (i := o + ((k + 1 : Nat) : Int)) (by omega)
    have hk := ih fun j j0 j1 => h j j0 (by omega)
    have hs := h ((k + 1 : Nat) : Int) (by omega) (by omega)
    rw [show ((k + 1 : Nat) : Int) - 1 = k by omega] at e hs
    rw [show o + ((k + 1 : Nat) : Int) - 1 = o + k by omega] at e' hs
    omega
theorem seg_symm (p q : Spot) : seg p q = seg q p := by
  unfold seg sq
  rw [← Int.neg_mul_neg (q.x - p.x), ← Int.neg_mul_neg (q.y - p.y), Int.neg_sub, Int.neg_sub]
theorem isq_zero : isq 0 = 0 := by rfl
theorem seg_self (p : Spot) : seg p p = 0 := by
  unfold seg sq
  simp only [Int.sub_self, Int.mul_zero, Int.add_zero]
  exact isq_zero
theorem rdiv_full {n d : Int} (h : 0 < n) : rdiv (n * d) n = d := by
  have key : ∀ e : Int, 0 ≤ e → (2 * (n * e) + n).tdiv (2 * n) = e := by
    intro e he
    have := Int.mul_nonneg (Int.le_of_lt h) he
    rw [Int.tdiv_eq_ediv_of_nonneg (by omega), show 2 * (n * e) + n = n + e * (2 * n) by rw [Int.mul_comm e, Int.mul_assoc]; omega, Int.add_mul_ediv_right _ _ (by omega), Int.ediv_eq_zero_of_lt (by omega) (by omega)]
    omega
  unfold rdiv
  split
  · rename_i hc
    have hd : d < 0 := by
      apply Classical.byContradiction; intro h2
      have := Int.mul_nonneg (Int.le_of_lt h) (show 0 ≤ d by omega); omega
    rw [← Int.mul_neg, key (-d) (by omega)]; omega
  · rename_i hc
    have hd : 0 ≤ d := by
      apply Classical.byContradiction; intro h2
      have := Int.mul_lt_mul_of_pos_left (show d < 0 by omega) h; omega
    exact key d hd
theorem onSeg_zero {p q : Spot} (h : 0 < seg p q) : onSeg p q 0 = p := by
  unfold onSeg
  rw [Int.zero_mul, Int.zero_mul, rdiv_zero h]; cases p; simp
theorem onSeg_full {p q : Spot} (h : 0 < seg p q) : onSeg p q (seg p q) = q := by
  unfold onSeg
  rw [rdiv_full h, rdiv_full h]; cases p; cases q; simp; omega
theorem upTo_lt {l : List Spot} (h : Line l) {i j : Int} (h0 : 0 ≤ i) (h1 : i < j) (h2 : j < l.length) : upTo l i < upTo l j := by
  have e := upTo_step l (i := j) (by omega)
  have g1 := h.at (i := j - 1) ⟨by omega, by omega⟩
  have g2 := h.at (i := j) ⟨by omega, by omega⟩
  have := seg_pos g1 g2 fun e => h.step ⟨j, by omega, h2, e⟩
  have := upTo_mono h (i := i) (j := j - 1) h0 (by omega) (by omega)
  omega
/-- The point at a length, out of any segment on which it lies. -/
theorem pt_any {l : List Spot} (hl : Line l) {s m : Int} (h1 : 1 ≤ m) (h2 : m < l.length) (h3 : upTo l (m - 1) ≤ s) (h4 : s ≤ upTo l m) : pt l s = onSeg (ai l (m - 1)) (ai l m) (s - upTo l (m - 1)) := by
  have hi := idx_is hl.two s
  have i1 := hi.one
  have i2 := hi.lt
  have u0 := upTo_range' hl (i := m - 1) (by omega) (by omega)
  have tm := upTo_mono hl (i := m) (j := (l.length : Int) - 1) (by omega) (by omega) (by omega)
  have o := onIt hl (s := s) (by omega) (by show s ≤ upTo l ((l.length : Int) - 1); omega) hi
  have hle : idx l s ≤ m := by
    apply Classical.byContradiction; intro hc
    have := hi.on m h1 (by omega); omega
  by_cases e : idx l s = m
  · rw [pt, e]
  · have hst : s ≤ upTo l (idx l s) := by
      rcases hi.stop with h | h
      · exact h
      · omega
    have hm := upTo_mono hl (i := idx l s) (j := m - 1) (by omega) (by omega) (by omega)
    have em : idx l s = m - 1 := by
      apply Classical.byContradiction; intro hc
      have := upTo_lt hl (i := idx l s) (j := m - 1) (by omega) (by omega) (by omega); omega
    have es : s = upTo l (m - 1) := by rw [← em]; rw [← em] at h3; omega
    have st := upTo_step l i1
    have g1 := hl.at (i := m - 1) ⟨by omega, by omega⟩
    have g2 := hl.at (i := m) ⟨by omega, by omega⟩
    have sp := seg_pos g1 g2 fun e => hl.step ⟨m, h1, h2, e⟩
    have on := o.ne
    rw [show s - upTo l (m - 1) = 0 by omega, onSeg_zero (by omega), pt, show s - upTo l (idx l s - 1) = seg (ai l (idx l s - 1)) (ai l (idx l s)) by rw [em] at st ⊢; omega, onSeg_full (by omega), em]
/-! No equal neighbours. -/
theorem adj_snoc {l : List Spot} {x : Spot} (h : ¬ Adj (l ++ [x])) : ¬ Adj l ∧ (0 < l.length → ai l ((l.length : Int) - 1) ≠ x) := by
  constructor
  · rintro ⟨i, i0, i1, e⟩
    refine h ⟨i, i0, by simp; omega, ?_⟩
    rw [ai_append (by omega), ai_append (by omega), if_pos (by omega), if_pos (by omega)]; exact e
  · intro hp e
    refine h ⟨l.length, by omega, by simp; omega, ?_⟩
    rw [ai_append (by omega), ai_append (by omega), if_neg (by omega), if_pos (by omega), e, show (l.length : Int) - l.length = 0 by omega]; rfl
theorem adj_to_snoc {l : List Spot} {x : Spot} (h : ¬ Adj l) (hx : ai l ((l.length : Int) - 1) ≠ x) : ¬ Adj (l ++ [x]) := by
  rintro ⟨i, i0, i1, e⟩
  simp only [List.length_append, List.length_cons, List.length_nil] at i1
  by_cases c : i < l.length
  · rw [ai_append (by omega), ai_append (by omega), if_pos c, if_pos (by omega)] at e
    exact h ⟨i, i0, c, e⟩
  · have ei : i = l.length := by omega
    subst ei
    rw [ai_append (by omega), ai_append (by omega), if_neg c, if_pos (by omega), show (l.length : Int) - l.length = 0 by omega] at e
    exact hx e.symm
theorem adj_to_cons {l : List Spot} {x : Spot} (h : ¬ Adj l) (hx : x ≠ ai l 0) : ¬ Adj ([x] ++ l) := by
  rintro ⟨i, i0, i1, e⟩
  simp only [List.length_append, List.length_cons, List.length_nil] at i1
  by_cases c : i = 1
  · subst c
    rw [ai_append (by omega), ai_append (by omega), if_neg (by simp), if_pos (by simp)] at e
    exact hx e.symm
  · rw [ai_append (by omega), ai_append (by omega), if_neg (by simp; omega), if_neg (by simp; omega)] at e
    simp only [List.length_cons, List.length_nil] at e
    exact h ⟨i - 1, by omega, by omega, by simpa using e⟩
theorem dd_same {l : List Spot} : ¬ Adj l → dd l = l := by
  refine snoc_ind (p := fun l => ¬ Adj l → dd l = l) (fun _ => rfl) (fun l x ih h => ?_) l
  obtain ⟨h1, h2⟩ := adj_snoc h
  rw [dd_snoc', ih h1]
  split
  · rename_i e
    exfalso
    by_cases c : 0 < l.length
    · rw [last_ai c] at e; exact h2 c (Option.some.inj e)
    · have : l = [] := List.length_eq_zero_iff.1 (by omega)
      subst this; cases e
  · rfl
theorem dd_cons_eq {l : List Spot} {x : Spot} : 0 < l.length → x = ai l 0 → dd ([x] ++ l) = dd l := by
  refine snoc_ind (p := fun l => 0 < l.length → x = ai l 0 → dd ([x] ++ l) = dd l) (fun h => by simp at h) (fun l y ih _ e => ?_) l
  rw [← List.append_assoc, dd_snoc', dd_snoc' l]
  by_cases c : 0 < l.length
  · have e' : x = ai l 0 := by rw [e, ai_append (by omega), if_pos (by omega)]
    rw [ih c e', show ([x] ++ l).getLast? = l.getLast? by rw [List.getLast?_append]; cases h : l.getLast? with
      | none => rw [List.getLast?_eq_none_iff] at h; subst h; simp at c
      | some z => rfl]
  · have : l = [] := List.length_eq_zero_iff.1 (by omega)
    subst this
    have e : x = y := e
    subst e
    simp [dd]
theorem fx_two {l : List Spot} (h : 2 ≤ l.length) : fx l = l := by rw [fx, if_neg (by omega)]
/-- A part of a polyline. -/
theorem adj_cut {l : List Spot} (h : ¬ Adj l) {a b : Int} (hs : Slc a b l.length) : ¬ Adj (cut l a b) := by
  obtain ⟨h0, h1, h2⟩ := hs
  rintro ⟨i, i0, i1, e⟩
  rw [cut_length ⟨h0, h1, h2⟩] at i1
  rw [ai_cut ⟨h0, h1, h2⟩ (by omega) (by omega), ai_cut ⟨h0, h1, h2⟩ (by omega) (by omega)] at e
  exact h ⟨a + i, by omega, by omega, by rw [e]; congr 1; omega⟩
theorem grid_cut {l : List Spot} (h : ∀ p, p ∈ l → G p) {a b : Int} : ∀ p, p ∈ cut l a b → G p := fun p hp => h p (List.mem_of_mem_take (List.mem_of_mem_drop hp))
theorem upTo_cut {l : List Spot} {a b i : Int} (hs : Slc a b l.length) (h0 : 0 ≤ i) (h1 : i < b - a) : upTo (cut l a b) i = upTo l (a + i) - upTo l a := by
  obtain ⟨g0, g1, g2⟩ := hs
  refine upTo_alike g0 h0 fun j j0 j1 => ?_
  rw [ai_cut ⟨g0, g1, g2⟩ (by omega) (by omega), ai_cut ⟨g0, g1, g2⟩ (by omega) (by omega), show a + (j - 1) = a + j - 1 by omega]
end Go.Ab
