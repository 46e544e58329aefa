/- A part of the proof. Conditions: those of each theorem. -/
import Derived.Test.YtjbodjmkfklleaaDoorEWall
import Derived.Test.YtjbodjmkfklleaaDoorER
set_option linter.unusedVariables false
set_option linter.unusedSimpArgs false
set_option linter.unusedSectionVars false

section
namespace Go.Ab
open Go.Proofs
set_option maxRecDepth 10000
set_option linter.unusedVariables false

theorem ai_nat {α : Type} [Inhabited α] {l : List α} {i : Nat} (h : i < l.length) : ai l (i : Int) = l[i] := by simp [ai, h]
theorem ai_get {α : Type} [Inhabited α] {l : List α} {i : Nat} {v : Int} (e : v = i) (h : i < l.length) : ai l v = l[i] := by subst e; exact ai_nat h
theorem ai_mem {α : Type} [Inhabited α] {l : List α} {v : Int} (h : Idx v l.length) : ai l v ∈ l := List.mem_of_getElem? (ai_some h)

def coord (n : Int) : Bool := decide (-1048576 ≤ n) && decide (n ≤ 1048576)
theorem ret_coord (n : Int) : Ret Tryd.prog XS 45 [int n] (boo (coord n)) := by
  refine polyline_coord_W n _ ⟨fun h => ?_, fun h => ?_⟩
  · simp [coord, show -1048576 ≤ n by omega]
  · simp [coord]; omega
def inGrid (p : Spot) : Bool := coord p.x && coord p.y
/-- Two neighbours are equal. -/
def Adj (l : List Spot) : Prop := ∃ i : Int, 1 ≤ i ∧ i < l.length ∧ ai l i = ai l (i - 1)
open Classical in
noncomputable def check (l : List Spot) : Int := if 40 < l.length then 5 else if l.length < 2 then 11 else if l.all inGrid = false then 3 else if Adj l then 11 else 0
theorem check_a {l : List Spot} (h : 40 < l.length) : check l = 5 := if_pos h
theorem check_b {l : List Spot} (h : ¬ 40 < l.length) (h2 : l.length < 2) : check l = 11 := by rw [check, if_neg h, if_pos h2]
theorem check_c {l : List Spot} (h : ¬ 40 < l.length) (h2 : ¬ l.length < 2) (h3 : l.all inGrid = false) : check l = 3 := by rw [check, if_neg h, if_neg h2, if_pos h3]
theorem check_d {l : List Spot} (h : ¬ 40 < l.length) (h2 : ¬ l.length < 2) (h3 : l.all inGrid = true) (h4 : Adj l) : check l = 11 := by rw [check, if_neg h, if_neg h2, if_neg (by simp [h3]), if_pos h4]
theorem check_e {l : List Spot} (h : ¬ 40 < l.length) (h2 : ¬ l.length < 2) (h3 : l.all inGrid = true) (h4 : ¬ Adj l) : check l = 0 := by rw [check, if_neg h, if_neg h2, if_neg (by simp [h3]), if_neg h4]
theorem all_of {l : List Spot} {p : Spot → Bool} (h : ∀ j : Int, 0 ≤ j → j < l.length → p (ai l j) = true) : l.all p = true := by
  rw [List.all_eq_true]
  intro x hx
  obtain ⟨j, hj, rfl⟩ := List.getElem_of_mem hx
  rw [← ai_nat hj]; exact h j (by omega) (by omega)
theorem all_not {l : List Spot} {p : Spot → Bool} {v : Int} (h : Idx v l.length) (hp : p (ai l v) = false) : l.all p = false := by
  rw [List.all_eq_false]; exact ⟨_, ai_mem h, by simp [hp]⟩
theorem ret_check (l : List Spot) : Ret Tryd.prog XS 36 [.sl 2 (l.map cSpot)] (int (check l)) := by
  refine polyline_Check_W l _ (fun v => 0 ≤ v ∧ v ≤ l.length ∧ ¬ 40 < l.length ∧ ¬ l.length < 2 ∧ ∀ j : Int, 0 ≤ j → j < v → inGrid (ai l j) = true) (fun v => (l.length - v).toNat)
    (fun v => 1 ≤ v ∧ v ≤ l.length ∧ ¬ 40 < l.length ∧ ¬ l.length < 2 ∧ l.all inGrid = true ∧ ∀ j : Int, 1 ≤ j → j < v → ¬ ai l j = ai l (j - 1)) (fun v => (l.length - v).toNat) ?_ ?_ ?_
  · exact ⟨fun h => check_a (by omega), fun h => ⟨fun h2 => check_b (by omega) (by omega), fun h2 => ⟨by omega, by omega, by omega, by omega, fun j _ _ => by omega⟩⟩⟩
  · rintro v ⟨h0, h1, h2, h3, h4⟩
    refine ⟨fun hlt => ⟨⟨h0, hlt⟩, _, ret_coord _, fun c1 => ⟨_, ret_coord _, fun c2 => ⟨⟨by omega, by omega⟩, ⟨by omega, by omega, h2, h3, fun j j0 j1 => ?_⟩, (by dsimp only; omega)⟩, fun c2 => ?_⟩, fun c1 => ?_⟩, fun hlt => ?_⟩
    · by_cases e : j = v
      · subst e; simp [inGrid, c1, c2]
      · exact h4 j j0 (by omega)
    · exact check_c h2 h3 (all_not ⟨h0, hlt⟩ (by simp [inGrid, c2]))
    · exact check_c h2 h3 (all_not ⟨h0, hlt⟩ (by simp [inGrid, c1]))
    · exact ⟨by omega, by omega, h2, h3, all_of fun j j0 j1 => h4 j j0 (by omega), fun j j0 j1 => by omega⟩
  · rintro v ⟨h0, h1, h2, h3, h4, h5⟩
    refine ⟨fun hlt => ⟨⟨by omega, hlt⟩, ⟨by omega, by omega⟩, ⟨by omega, by omega⟩, fun e => ?_, fun e => ⟨⟨by omega, by omega⟩, ⟨by omega, by omega, h2, h3, h4, fun j j0 j1 => ?_⟩, (by dsimp only; omega)⟩⟩, fun hlt => ?_⟩
    · exact check_d h2 h3 h4 ⟨v, h0, hlt, e⟩
    · by_cases e' : j = v
      · subst e'; exact e
      · exact h5 j j0 (by omega)
    · refine check_e h2 h3 h4 ?_
      rintro ⟨i, i0, i1, e⟩
      exact h5 i i0 (by omega) e
end Go.Ab
end

section
namespace Go.Ab
open Go.Proofs
set_option maxRecDepth 10000
set_option linter.unusedVariables false

def G (p : Spot) : Prop := (-1048576 ≤ p.x ∧ p.x ≤ 1048576) ∧ -1048576 ≤ p.y ∧ p.y ≤ 1048576
theorem G_of {p : Spot} (h : inGrid p = true) : G p := by
  simp [inGrid, coord] at h; exact ⟨⟨h.1.1, h.1.2⟩, h.2.1, h.2.2⟩
theorem G_to {p : Spot} (h : G p) : inGrid p = true := by
  obtain ⟨⟨a, b⟩, c, d⟩ := h
  simp [inGrid, coord, a, b, c, d]
/-- The square of a length. -/
def sq (p q : Spot) : Int := (q.x - p.x) * (q.x - p.x) + (q.y - p.y) * (q.y - p.y)
def seg (p q : Spot) : Int := isq (1000000 * sq p q)
theorem sq_le (a : Int) (h1 : -2097152 ≤ a) (h2 : a ≤ 2097152) : 0 ≤ a * a ∧ a * a ≤ 4398046511104 := by
  rcases Int.le_total 0 a with h | h
  · exact ⟨Int.mul_nonneg h h, sq_mono (b := 2097152) h h2⟩
  · have e : a * a = (-a) * (-a) := (Int.neg_mul_neg a a).symm
    rw [e]
    exact ⟨Int.mul_nonneg (by omega) (by omega), sq_mono (a := -a) (b := 2097152) (by omega) (by omega)⟩
theorem sq_range {p q : Spot} (hp : G p) (hq : G q) : 0 ≤ sq p q ∧ sq p q ≤ 8796093022208 := by
  obtain ⟨⟨a1, a2⟩, a3, a4⟩ := hp
  obtain ⟨⟨b1, b2⟩, b3, b4⟩ := hq
  have h1 := sq_le (q.x - p.x) (by omega) (by omega)
  have h2 := sq_le (q.y - p.y) (by omega) (by omega)
  unfold sq
  omega
theorem seg_range {p q : Spot} (hp : G p) (hq : G q) : 0 ≤ seg p q ∧ seg p q ≤ 2965820801 := by
  have h := sq_range hp hq
  obtain ⟨h1, h2, h3⟩ := isq_spec (n := 1000000 * sq p q) (by omega) (by omega)
  refine ⟨h1, ?_⟩
  apply Classical.byContradiction
  intro hc
  have := sq_mono (a := 2965820802) (b := seg p q) (by omega) (by omega)
  unfold seg at this
  omega
theorem ret_segment {p q : Spot} (hp : G p) (hq : G q) : Ret Tryd.prog XS 37 [.agg [int p.x, int p.y], .agg [int q.x, int q.y]] (int (seg p q)) := by
  have hs := sq_range hp hq
  have hroot := ret_root (n := 1000000 * sq p q) (by omega) (by omega)
  obtain ⟨⟨a1, a2⟩, a3, a4⟩ := hp
  obtain ⟨⟨b1, b2⟩, b3, b4⟩ := hq
  have x1 := sq_le (q.x - p.x) (by omega) (by omega)
  have y1 := sq_le (q.y - p.y) (by omega) (by omega)
  exact polyline_segment_W p q _ ⟨⟨by omega, by omega⟩, ⟨by omega, by omega⟩, ⟨by omega, by omega⟩, ⟨by omega, by omega⟩, ⟨by omega, by omega⟩, ⟨by omega, by omega⟩, _, hroot, rfl⟩
structure Line (l : List Spot) : Prop where
  two : 2 ≤ l.length
  forty : l.length ≤ 40
  grid : ∀ p, p ∈ l → G p
  step : ¬ Adj l
theorem check_zero {l : List Spot} : check l = 0 ↔ Line l := by
  constructor
  · intro h
    by_cases h1 : 40 < l.length
    · rw [check_a h1] at h; cases h
    by_cases h2 : l.length < 2
    · rw [check_b h1 h2] at h; cases h
    cases h3 : l.all inGrid with
    | false => rw [check_c h1 h2 h3] at h; cases h
    | true =>
      by_cases h4 : Adj l
      · rw [check_d h1 h2 h3 h4] at h; cases h
      · exact ⟨by omega, by omega, fun p hp => G_of (List.all_eq_true.1 h3 p hp), h4⟩
  · rintro ⟨h1, h2, h3, h4⟩
    exact check_e (by omega) (by omega) (List.all_eq_true.2 fun p hp => G_to (h3 p hp)) h4
theorem Line.at {l : List Spot} (h : Line l) {i : Int} (hi : Idx i l.length) : G (ai l i) := h.grid _ (ai_mem hi)
/-- The length up to vertex i. -/
def sumTo (l : List Spot) : Nat → Int
  | 0 => 0
  | i + 1 => sumTo l i + seg (ai l (i : Int)) (ai l ((i : Int) + 1))
def upTo (l : List Spot) (i : Int) : Int := sumTo l i.toNat
def total (l : List Spot) : Int := upTo l ((l.length : Int) - 1)
theorem upTo_zero (l : List Spot) : upTo l 0 = 0 := rfl
theorem upTo_step (l : List Spot) {i : Int} (h : 1 ≤ i) : upTo l i = upTo l (i - 1) + seg (ai l (i - 1)) (ai l i) := by
  obtain ⟨k, rfl⟩ : ∃ k : Nat, i = (k : Int) + 1 := ⟨(i - 1).toNat, by omega⟩
  have e1 : ((k : Int) + 1).toNat = k + 1 := by omega
  have e2 : ((k : Int) + 1 - 1) = k := by omega
  unfold upTo
  rw [e1, e2, Int.toNat_natCast, sumTo]
theorem upTo_range {l : List Spot} (h : Line l) : ∀ (k : Nat), (k : Int) < l.length → 0 ≤ upTo l k ∧ upTo l k ≤ k * 2965820801
  | 0, _ => by simp [upTo_zero]
  | k + 1, hk => by
    have ih := upTo_range h k (by omega)
    have e := upTo_step l (i := ((k + 1 : Nat) : Int)) (by omega)
    have e2 : ((k + 1 : Nat) : Int) - 1 = k := by omega
    rw [e2] at e
    have := seg_range (h.at (i := (k : Int)) ⟨by omega, by omega⟩) (h.at (i := ((k + 1 : Nat) : Int)) ⟨by omega, by omega⟩)
    omega
theorem upTo_range' {l : List Spot} (h : Line l) {i : Int} (h0 : 0 ≤ i) (h1 : i < l.length) : 0 ≤ upTo l i ∧ upTo l i ≤ 118632832040 := by
  obtain ⟨k, rfl⟩ : ∃ k : Nat, i = k := ⟨i.toNat, by omega⟩
  have := upTo_range h k h1
  have := h.forty
  omega
theorem ret_length (l : List Spot) : Ret Tryd.prog XS 22 [.sl 2 (l.map cSpot)] (.tup [int (if check l = 0 then total l else 0), int (check l)]) := by
  refine polyline_Length_W l _ _ (fun n i => Line l ∧ 1 ≤ i ∧ i ≤ l.length ∧ n = upTo l (i - 1)) (fun n i => (l.length - i).toNat) ⟨_, ret_check l, fun h => ?_, fun h => ⟨by rw [if_neg h], rfl⟩⟩ ?_
  · have hl := check_zero.1 h
    have := hl.two
    exact ⟨hl, by omega, by omega, rfl⟩
  · rintro n i ⟨hl, h0, h1, rfl⟩
    have h40 := hl.forty
    refine ⟨fun hlt => ?_, fun hlt => ?_⟩
    · have g1 := hl.at (i := i - 1) ⟨by omega, by omega⟩
      have g2 := hl.at (i := i) ⟨by omega, by omega⟩
      have e := upTo_step l h0
      have r := upTo_range' hl (i := i) (by omega) (by omega)
      refine ⟨⟨by omega, by omega⟩, ⟨by omega, by omega⟩, ⟨by omega, by omega⟩, _, ret_segment g1 g2, ⟨by omega, by omega⟩, ⟨by omega, by omega⟩, ⟨hl, by omega, by omega, ?_⟩, by dsimp only; omega⟩
      rw [← e, show i + 1 - 1 = i by omega]
    · have e : i = l.length := by omega
      subst e
      exact ⟨by rw [if_pos (check_zero.2 hl)]; rfl, check_zero.2 hl⟩
end Go.Ab
end
