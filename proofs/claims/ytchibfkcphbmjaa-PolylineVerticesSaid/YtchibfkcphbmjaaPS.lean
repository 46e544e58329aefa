/- A part of the proof. Conditions: those of each theorem. -/
import Derived.Test.YtchibfkcphbmjaaPW
import Derived.Test.YtchibfkcphbmjaaPR
set_option linter.unusedVariables false
set_option linter.unusedSimpArgs false
set_option linter.unusedSectionVars false

namespace Go.Ab
open Go.Proofs
set_option maxRecDepth 10000
set_option linter.unusedVariables false

theorem ai_nat {α : Type} [Inhabited α] {l : List α} {i : Nat} (h : i < l.length) : ai l (i : Int) = l[i] := by simp [ai, h]
theorem ai_get {α : Type} [Inhabited α] {l : List α} {i : Nat} {v : Int} (e : v = i) (h : i < l.length) : ai l v = l[i] := by subst e; exact ai_nat h
theorem ai_mem {α : Type} [Inhabited α] {l : List α} {v : Int} (h : Idx v l.length) : ai l v ∈ l := List.mem_of_getElem? (ai_some h)

def coord (n : Int) : Bool := decide (-1048576 ≤ n) && decide (n ≤ 1048576)
theorem ret_coord (n : Int) : Ret Try.prog XS 30 [int n] (boo (coord n)) := by
  refine polyline_coord_W n _ ⟨fun h => ?_, fun h => ?_⟩
  · simp [coord, show -1048576 ≤ n by omega]
  · simp [coord]; omega
theorem ret_far (n : Int) : Ret Try.prog XS 37 [int n] (boo (!coord n)) := by
  refine garmentref10_far_W n _ ⟨fun h => ?_, fun h => ?_⟩
  · simp [coord]; omega
  · rw [Bool.eq_iff_iff]; simp [coord]; omega
def inGrid (p : Spot) : Bool := coord p.x && coord p.y
/-- Two neighbours are equal. -/
def Adj (l : List Spot) : Prop := ∃ i : Int, 1 ≤ i ∧ i < l.length ∧ ai l i = ai l (i - 1)
open Classical in
noncomputable def check (l : List Spot) : Int := if 40 < l.length then 5 else if l.length < 2 then 11 else if l.all inGrid = false then 3 else if Adj l then 11 else 0
theorem check_a {l : List Spot} (h : 40 < l.length) : check l = 5 := if_pos h
theorem check_b {l : List Spot} (h : ¬ 40 < l.length) (h2 : l.length < 2) : check l = 11 := by rw [check, if_neg h, if_pos h2]
theorem check_c {l : List Spot} (h : ¬ 40 < l.length) (h2 : ¬ l.length < 2) (h3 : l.all inGrid = false) : check l = 3 := by rw [check, if_neg h, if_neg h2, if_pos h3]
theorem check_d {l : List Spot} (h : ¬ 40 < l.length) (h2 : ¬ l.length < 2) (h3 : l.all inGrid = true) (h4 : Adj l) : check l = 11 := by rw [check, if_neg h, if_neg h2, if_neg (by simp [h3]), if_pos h4]
theorem check_e {l : List Spot} (h : ¬ 40 < l.length) (h2 : ¬ l.length < 2) (h3 : l.all inGrid = true) (h4 : ¬ Adj l) : check l = 0 := by rw [check, if_neg h, if_neg h2, if_neg (by simp [h3]), if_neg h4]
theorem all_of {l : List Spot} {p : Spot → Bool} (h : ∀ j : Int, 0 ≤ j → j < l.length → p (ai l j) = true) : l.all p = true := by
  rw [List.all_eq_true]
  intro x hx
  obtain ⟨j, hj, rfl⟩ := List.getElem_of_mem hx
  rw [← ai_nat hj]; exact h j (by omega) (by omega)
theorem all_not {l : List Spot} {p : Spot → Bool} {v : Int} (h : Idx v l.length) (hp : p (ai l v) = false) : l.all p = false := by
  rw [List.all_eq_false]; exact ⟨_, ai_mem h, by simp [hp]⟩
theorem ret_check (l : List Spot) : Ret Try.prog XS 16 [.sl 2 (l.map cSpot)] (int (check l)) := by
  refine polyline_Check_W l _ (fun v => 0 ≤ v ∧ v ≤ l.length ∧ ¬ 40 < l.length ∧ ¬ l.length < 2 ∧ ∀ j : Int, 0 ≤ j → j < v → inGrid (ai l j) = true) (fun v => (l.length - v).toNat)
    (fun v => 1 ≤ v ∧ v ≤ l.length ∧ ¬ 40 < l.length ∧ ¬ l.length < 2 ∧ l.all inGrid = true ∧ ∀ j : Int, 1 ≤ j → j < v → ¬ ai l j = ai l (j - 1)) (fun v => (l.length - v).toNat) ?_ ?_ ?_
  · exact ⟨fun h => check_a (by omega), fun h => ⟨fun h2 => check_b (by omega) (by omega), fun h2 => ⟨by omega, by omega, by omega, by omega, fun j _ _ => by omega⟩⟩⟩
  · rintro v ⟨h0, h1, h2, h3, h4⟩
    refine ⟨fun hlt => ⟨⟨h0, hlt⟩, _, ret_coord _, fun c1 => ⟨_, ret_coord _, fun c2 => ⟨⟨by omega, by omega⟩, ⟨by omega, by omega, h2, h3, fun j j0 j1 => ?_⟩, (by dsimp only; omega)⟩, fun c2 => ?_⟩, fun c1 => ?_⟩, fun hlt => ?_⟩
    · by_cases e : j = v
      · subst e; simp [inGrid, c1, c2]
      · exact h4 j j0 (by omega)
    · exact check_c h2 h3 (all_not ⟨h0, hlt⟩ (by simp [inGrid, c2]))
    · exact check_c h2 h3 (all_not ⟨h0, hlt⟩ (by simp [inGrid, c1]))
    · exact ⟨by omega, by omega, h2, h3, all_of fun j j0 j1 => h4 j j0 (by omega), fun j j0 j1 => by omega⟩
  · rintro v ⟨h0, h1, h2, h3, h4, h5⟩
    refine ⟨fun hlt => ⟨⟨by omega, hlt⟩, ⟨by omega, by omega⟩, ⟨by omega, by omega⟩, fun e => ?_, fun e => ⟨⟨by omega, by omega⟩, ⟨by omega, by omega, h2, h3, h4, fun j j0 j1 => ?_⟩, (by dsimp only; omega)⟩⟩, fun hlt => ?_⟩
    · exact check_d h2 h3 h4 ⟨v, h0, hlt, e⟩
    · by_cases e' : j = v
      · subst e'; exact e
      · exact h5 j j0 (by omega)
    · refine check_e h2 h3 h4 ?_
      rintro ⟨i, i0, i1, e⟩
      exact h5 i i0 (by omega) e
theorem ret_Far (l : List Spot) (hl : l.length ≤ 9223372036854775807) : Ret Try.prog XS 33 [.sl 2 (l.map cSpot)] (boo (!l.all inGrid)) := by
  refine garmentref10_Far_W l _ (fun v => 0 ≤ v ∧ v ≤ l.length ∧ ∀ j : Int, 0 ≤ j → j < v → inGrid (ai l j) = true) (fun v => (l.length - v).toNat) ⟨by omega, by omega, fun j _ _ => by omega⟩ ?_
  rintro v ⟨h0, h1, h4⟩
  refine ⟨fun hlt => ⟨⟨h0, hlt⟩, _, ret_far _, fun c1 => ?_, fun c1 => ⟨_, ret_far _, fun c2 => ?_, fun c2 => ⟨⟨by omega, by omega⟩, ⟨by omega, by omega, fun j j0 j1 => ?_⟩, (by dsimp only; omega)⟩⟩⟩, fun hlt => ?_⟩
  · rw [all_not ⟨h0, hlt⟩ (by simp [inGrid]; simp at c1; simp [c1])]; rfl
  · rw [all_not ⟨h0, hlt⟩ (by simp [inGrid]; simp at c2; simp [c2])]; rfl
  · by_cases e : j = v
    · subst e; simp at c1 c2; simp [inGrid, c1, c2]
    · exact h4 j j0 (by omega)
  · rw [all_of fun j j0 j1 => h4 j j0 (by omega)]; rfl
theorem ret_rcheck (l : List Spot) : Ret Try.prog XS 24 [.sl 2 (l.map cSpot)] (int (check l)) := by
  refine garmentref10_Check_W l _ (fun v => 1 ≤ v ∧ v ≤ l.length ∧ ¬ 40 < l.length ∧ ¬ l.length < 2 ∧ l.all inGrid = true ∧ ∀ j : Int, 1 ≤ j → j < v → ¬ ai l j = ai l (j - 1)) (fun v => (l.length - v).toNat) ?_ ?_
  · exact ⟨fun h => check_a (by omega), fun h => ⟨fun h2 => check_b (by omega) (by omega), fun h2 => ⟨_, ret_Far l (by omega), fun c => check_c (by omega) (by omega) (by simpa using c), fun c => ⟨by omega, by omega, by omega, by omega, by simpa using c, fun j _ _ => by omega⟩⟩⟩⟩
  · rintro v ⟨h0, h1, h2, h3, h4, h5⟩
    refine ⟨fun hlt => ⟨⟨by omega, hlt⟩, ⟨by omega, by omega⟩, ⟨by omega, by omega⟩, fun e => ?_, fun e => ⟨⟨by omega, by omega⟩, ⟨by omega, by omega, h2, h3, h4, fun j j0 j1 => ?_⟩, (by dsimp only; omega)⟩⟩, fun hlt => ?_⟩
    · exact check_d h2 h3 h4 ⟨v, h0, hlt, e⟩
    · by_cases e' : j = v
      · subst e'; exact e
      · exact h5 j j0 (by omega)
    · refine check_e h2 h3 h4 ?_
      rintro ⟨i, i0, i1, e⟩
      exact h5 i i0 (by omega) e
theorem ret_same (a b : List Spot) (hl : a.length ≤ 9223372036854775807) : Ret Try.prog XS 14 [.sl 2 (a.map cSpot), .sl 2 (b.map cSpot)] (boo (decide (a = b))) := by
  refine garmentref10_Same_W a b _ (fun v => 0 ≤ v ∧ v ≤ a.length ∧ a.length = b.length ∧ ∀ j : Int, 0 ≤ j → j < v → ai a j = ai b j) (fun v => (a.length - v).toNat) ?_ ?_
  · refine ⟨fun h => ⟨by omega, by omega, by omega, fun j _ _ => by omega⟩, fun h => ?_⟩
    refine decide_eq_false ?_; intro e; subst e; exact h rfl
  · rintro v ⟨h0, h1, h2, h4⟩
    refine ⟨fun hlt => ⟨⟨h0, hlt⟩, ⟨h0, by omega⟩, fun e => ⟨⟨by omega, by omega⟩, ⟨by omega, by omega, h2, fun j j0 j1 => ?_⟩, (by dsimp only; omega)⟩, fun e => ?_⟩, fun hlt => ?_⟩
    · by_cases e' : j = v
      · subst e'; exact e
      · exact h4 j j0 (by omega)
    · refine decide_eq_false ?_; intro e'; subst e'; exact e rfl
    · refine decide_eq_true ?_
      refine List.ext_getElem h2 fun i hi hi' => ?_
      rw [← ai_nat hi, ← ai_nat hi']; exact h4 i (by omega) (by omega)
end Go.Ab
