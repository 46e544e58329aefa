/- Grading commutes with turning. -/
import Derived.Test.YtjbodjmkfklleaaDoorET5
import Derived.Test.YtjbodjmkfklleaaDoorEG15
set_option linter.unusedVariables false
set_option linter.unusedSimpArgs false
set_option linter.unusedSectionVars false

section
namespace Go.Ab
open Go.Proofs
set_option maxRecDepth 10000
set_option linter.unusedVariables false

theorem find_at {l : List Int} {i : Nat} (hi : i < l.length) (h0 : ∀ j, (hj : j < i) → l[j] = 0) (h : l[i] ≠ 0) : (l.find? fun e => decide (e ≠ 0)).getD 0 = l[i] := by
  have : l.find? (fun e => decide (e ≠ 0)) = some l[i] := by
    rw [List.find?_eq_some_iff_getElem]
    exact ⟨by simpa using h, i, hi, rfl, fun j hj => by simp [h0 j hj]⟩
  rw [this]; rfl
theorem find_none {l : List Int} : (l.find? fun e => decide (e ≠ 0)).getD 0 = 0 ↔ ∀ x, x ∈ l → x = 0 := by
  constructor
  · intro h x hx
    apply Classical.byContradiction
    intro hne
    cases hf : l.find? (fun e => decide (e ≠ 0)) with
    | none => rw [List.find?_eq_none] at hf; exact hf x hx (by simpa using hne)
    | some y => have := List.find?_some hf; rw [hf] at h; simp at this h; exact this h
  · intro h
    have : l.find? (fun e => decide (e ≠ 0)) = none := by rw [List.find?_eq_none]; intro x hx; simp [h x hx]
    rw [this]; rfl
theorem ret_ints (a b : List Int) (hn : a.length ≤ 1000000) : Ret Tryd.prog XS 18 [.sl 1 (a.map cI), .sl 1 (b.map cI)] (boo (decide (a = b))) := by
  refine garmentref21_SameInts_W a b _ (fun v => 0 ≤ v ∧ v ≤ a.length ∧ a.length = b.length ∧ ∀ j : Nat, (j : Int) < v → ai a (j : Int) = ai b (j : Int)) (fun v => a.length - v.toNat)
    ⟨fun h => ⟨by omega, by omega, by omega, fun j hj => by omega⟩, fun h => by rw [decide_eq_false]; rintro rfl; exact h rfl⟩ ?_
  rintro v ⟨h0, h1, hl, hj⟩
  obtain ⟨i, rfl⟩ : ∃ i : Nat, v = i := ⟨v.toNat, by omega⟩
  refine ⟨fun hlt => ⟨⟨h0, hlt⟩, ⟨by omega, by omega⟩, fun he => ⟨⟨by omega, by omega⟩, ⟨by omega, by omega, hl, fun j hjl => ?_⟩, by dsimp only; omega⟩, fun he => ?_⟩, fun hge => ?_⟩
  · by_cases hji : j = i
    · subst hji; exact he
    · exact hj j (by omega)
  · rw [decide_eq_false]; rintro rfl; exact he rfl
  · rw [decide_eq_true]; exact ext_ai hl fun j hjl => hj j (by omega)
end Go.Ab
end
