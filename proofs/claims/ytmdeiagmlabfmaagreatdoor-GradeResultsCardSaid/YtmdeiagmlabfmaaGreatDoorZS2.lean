/- A part of the proof. Conditions: those of each theorem. -/
import Derived.Test.YtmdeiagmlabfmaaGreatDoorZWall
import Derived.Test.YtmdeiagmlabfmaaGreatDoorZR
set_option linter.unusedVariables false
set_option linter.unusedSimpArgs false
set_option linter.unusedSectionVars false

section
namespace Go.Ab
open Go.Proofs
set_option maxRecDepth 10000
set_option linter.unusedVariables false

theorem ai_nat {α : Type} [Inhabited α] {l : List α} {i : Nat} (h : i < l.length) : ai l (i : Int) = l[i] := by simp [ai, h]
theorem ai_get {α : Type} [Inhabited α] {l : List α} {i : Nat} {v : Int} (e : v = i) (h : i < l.length) : ai l v = l[i] := by subst e; exact ai_nat h
theorem ai_mem {α : Type} [Inhabited α] {l : List α} {v : Int} (h : Idx v l.length) : ai l v ∈ l := List.mem_of_getElem? (ai_some h)

def coord (n : Int) : Bool := decide (-1048576 ≤ n) && decide (n ≤ 1048576)
theorem ret_coord (n : Int) : Ret Tryz.prog XS 60 [int n] (boo (coord n)) := by
  refine polyline_coord_W n _ ⟨fun h => ?_, fun h => ?_⟩
  · simp [coord, show -1048576 ≤ n by omega]
  · simp [coord]; omega
def inGrid (p : Spot) : Bool := coord p.x && coord p.y
/-- Two neighbours are equal. -/
def Adj (l : List Spot) : Prop := ∃ i : Int, 1 ≤ i ∧ i < l.length ∧ ai l i = ai l (i - 1)
open Classical in
noncomputable def check (l : List Spot) : Int := if 40 < l.length then 5 else if l.length < 2 then 11 else if l.all inGrid = false then 3 else if Adj l then 11 else 0
theorem check_a {l : List Spot} (h : 40 < l.length) : check l = 5 := if_pos h
theorem check_b {l : List Spot} (h : ¬ 40 < l.length) (h2 : l.length < 2) : check l = 11 := by rw [check, if_neg h, if_pos h2]
theorem check_c {l : List Spot} (h : ¬ 40 < l.length) (h2 : ¬ l.length < 2) (h3 : l.all inGrid = false) : check l = 3 := by rw [check, if_neg h, if_neg h2, if_pos h3]
theorem check_d {l : List Spot} (h : ¬ 40 < l.length) (h2 : ¬ l.length < 2) (h3 : l.all inGrid = true) (h4 : Adj l) : check l = 11 := by rw [check, if_neg h, if_neg h2, if_neg (by simp [h3]), if_pos h4]
theorem check_e {l : List Spot} (h : ¬ 40 < l.length) (h2 : ¬ l.length < 2) (h3 : l.all inGrid = true) (h4 : ¬ Adj l) : check l = 0 := by rw [check, if_neg h, if_neg h2, if_neg (by simp [h3]), if_neg h4]
theorem all_of {l : List Spot} {p : Spot → Bool} (h : ∀ j : Int, 0 ≤ j → j < l.length → p (ai l j) = true) : l.all p = true := by
  rw [List.all_eq_true]
  intro x hx
  obtain ⟨j, hj, rfl⟩ := List.getElem_of_mem hx
  rw [← ai_nat hj]; exact h j (by omega) (by omega)
theorem all_not {l : List Spot} {p : Spot → Bool} {v : Int} (h : Idx v l.length) (hp : p (ai l v) = false) : l.all p = false := by
  rw [List.all_eq_false]; exact ⟨_, ai_mem h, by simp [hp]⟩
theorem ret_check (l : List Spot) : Ret Tryz.prog XS 49 [.sl 2 (l.map cSpot)] (int (check l)) := by
  refine polyline_Check_W l _ (fun v => 0 ≤ v ∧ v ≤ l.length ∧ ¬ 40 < l.length ∧ ¬ l.length < 2 ∧ ∀ j : Int, 0 ≤ j → j < v → inGrid (ai l j) = true) (fun v => (l.length - v).toNat)
    (fun v => 1 ≤ v ∧ v ≤ l.length ∧ ¬ 40 < l.length ∧ ¬ l.length < 2 ∧ l.all inGrid = true ∧ ∀ j : Int, 1 ≤ j → j < v → ¬ ai l j = ai l (j - 1)) (fun v => (l.length - v).toNat) ?_ ?_ ?_
  · exact ⟨fun h => check_a (by omega), fun h => ⟨fun h2 => check_b (by omega) (by omega), fun h2 => ⟨by omega, by omega, by omega, by omega, fun j _ _ => by omega⟩⟩⟩
  · rintro v ⟨h0, h1, h2, h3, h4⟩
    refine ⟨fun hlt => ⟨⟨h0, hlt⟩, _, ret_coord _, fun c1 => ⟨_, ret_coord _, fun c2 => ⟨⟨by omega, by omega⟩, ⟨by omega, by omega, h2, h3, fun j j0 j1 => ?_⟩, (by dsimp only; omega)⟩, fun c2 => ?_⟩, fun c1 => ?_⟩, fun hlt => ?_⟩
    · by_cases e : j = v
      · subst e; simp [inGrid, c1, c2]
      · exact h4 j j0 (by omega)
    · exact check_c h2 h3 (all_not ⟨h0, hlt⟩ (by simp [inGrid, c2]))
    · exact check_c h2 h3 (all_not ⟨h0, hlt⟩ (by simp [inGrid, c1]))
    · exact ⟨by omega, by omega, h2, h3, all_of fun j j0 j1 => h4 j j0 (by omega), fun j j0 j1 => by omega⟩
  · rintro v ⟨h0, h1, h2, h3, h4, h5⟩
    refine ⟨fun hlt => ⟨⟨by omega, hlt⟩, ⟨by omega, by omega⟩, ⟨by omega, by omega⟩, fun e => ?_, fun e => ⟨⟨by omega, by omega⟩, ⟨by omega, by omega, h2, h3, h4, fun j j0 j1 => ?_⟩, (by dsimp only; omega)⟩⟩, fun hlt => ?_⟩
    · exact check_d h2 h3 h4 ⟨v, h0, hlt, e⟩
    · by_cases e' : j = v
      · subst e'; exact e
      · exact h5 j j0 (by omega)
    · refine check_e h2 h3 h4 ?_
      rintro ⟨i, i0, i1, e⟩
      exact h5 i i0 (by omega) e
end Go.Ab
end

section
namespace Go.Ab
open Go.Proofs
set_option maxRecDepth 10000
set_option linter.unusedVariables false

def G (p : Spot) : Prop := (-1048576 ≤ p.x ∧ p.x ≤ 1048576) ∧ -1048576 ≤ p.y ∧ p.y ≤ 1048576
theorem G_of {p : Spot} (h : inGrid p = true) : G p := by
  simp [inGrid, coord] at h; exact ⟨⟨h.1.1, h.1.2⟩, h.2.1, h.2.2⟩
theorem G_to {p : Spot} (h : G p) : inGrid p = true := by
  obtain ⟨⟨a, b⟩, c, d⟩ := h
  simp [inGrid, coord, a, b, c, d]
/-- The square of a length. -/
def sq (p q : Spot) : Int := (q.x - p.x) * (q.x - p.x) + (q.y - p.y) * (q.y - p.y)
structure Line (l : List Spot) : Prop where
  two : 2 ≤ l.length
  forty : l.length ≤ 40
  grid : ∀ p, p ∈ l → G p
  step : ¬ Adj l
theorem check_zero {l : List Spot} : check l = 0 ↔ Line l := by
  constructor
  · intro h
    by_cases h1 : 40 < l.length
    · rw [check_a h1] at h; cases h
    by_cases h2 : l.length < 2
    · rw [check_b h1 h2] at h; cases h
    cases h3 : l.all inGrid with
    | false => rw [check_c h1 h2 h3] at h; cases h
    | true =>
      by_cases h4 : Adj l
      · rw [check_d h1 h2 h3 h4] at h; cases h
      · exact ⟨by omega, by omega, fun p hp => G_of (List.all_eq_true.1 h3 p hp), h4⟩
  · rintro ⟨h1, h2, h3, h4⟩
    exact check_e (by omega) (by omega) (List.all_eq_true.2 fun p hp => G_to (h3 p hp)) h4
theorem Line.at {l : List Spot} (h : Line l) {i : Int} (hi : Idx i l.length) : G (ai l i) := h.grid _ (ai_mem hi)
end Go.Ab
end
