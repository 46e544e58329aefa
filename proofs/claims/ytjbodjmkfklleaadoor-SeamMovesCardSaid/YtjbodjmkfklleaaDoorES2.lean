/- A part of the proof. Conditions: those of each theorem. -/
import Derived.Test.YtjbodjmkfklleaaDoorEWall
import Derived.Test.YtjbodjmkfklleaaDoorER
set_option linter.unusedVariables false
set_option linter.unusedSimpArgs false
set_option linter.unusedSectionVars false

section
namespace Go.Ab
open Go.Proofs
set_option maxRecDepth 10000
set_option linter.unusedVariables false

theorem ai_nat {α : Type} [Inhabited α] {l : List α} {i : Nat} (h : i < l.length) : ai l (i : Int) = l[i] := by simp [ai, h]
theorem ai_get {α : Type} [Inhabited α] {l : List α} {i : Nat} {v : Int} (e : v = i) (h : i < l.length) : ai l v = l[i] := by subst e; exact ai_nat h
theorem ai_mem {α : Type} [Inhabited α] {l : List α} {v : Int} (h : Idx v l.length) : ai l v ∈ l := List.mem_of_getElem? (ai_some h)

def coord (n : Int) : Bool := decide (-1048576 ≤ n) && decide (n ≤ 1048576)
def inGrid (p : Spot) : Bool := coord p.x && coord p.y
/-- Two neighbours are equal. -/
def Adj (l : List Spot) : Prop := ∃ i : Int, 1 ≤ i ∧ i < l.length ∧ ai l i = ai l (i - 1)
open Classical in
noncomputable def check (l : List Spot) : Int := if 40 < l.length then 5 else if l.length < 2 then 11 else if l.all inGrid = false then 3 else if Adj l then 11 else 0
end Go.Ab
end

section
namespace Go.Ab
open Go.Proofs
set_option maxRecDepth 10000
set_option linter.unusedVariables false

def G (p : Spot) : Prop := (-1048576 ≤ p.x ∧ p.x ≤ 1048576) ∧ -1048576 ≤ p.y ∧ p.y ≤ 1048576
/-- The square of a length. -/
def sq (p q : Spot) : Int := (q.x - p.x) * (q.x - p.x) + (q.y - p.y) * (q.y - p.y)
structure Line (l : List Spot) : Prop where
  two : 2 ≤ l.length
  forty : l.length ≤ 40
  grid : ∀ p, p ∈ l → G p
  step : ¬ Adj l
theorem Line.at {l : List Spot} (h : Line l) {i : Int} (hi : Idx i l.length) : G (ai l i) := h.grid _ (ai_mem hi)
end Go.Ab
end
