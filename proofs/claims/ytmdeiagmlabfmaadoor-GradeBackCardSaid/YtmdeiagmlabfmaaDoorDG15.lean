/- Chapter 21: the laws GradeBack and GradeCorners, over lists and numbers. -/
import Derived.Test.YtmdeiagmlabfmaaDoorDG14
import Derived.Test.YtmdeiagmlabfmaaDoorDEx
import Derived.Test.YtmdeiagmlabfmaaDoorDLCornersW
set_option linter.unusedVariables false
set_option linter.unusedSimpArgs false
set_option linter.unusedSectionVars false

namespace Go.Ab
open Go.Proofs
set_option maxRecDepth 10000
set_option linter.unusedVariables false

theorem light_inv {p : Piece} {a : Int} (h : light p a = true) : p.edges.length ≤ 20 ∧ p.corners.length ≤ 20 ∧ p.widths.length ≤ 20 ∧ p.notches.length ≤ 20 ∧ ∀ e, e ∈ p.edges → (e.line.length : Int) ≤ a ∧ e.name.size ≤ 100 := by
  simp only [light, Bool.and_eq_true, decide_eq_true_eq, List.all_eq_true] at h
  obtain ⟨h1, h2, h3, h4, h5, _⟩ := h
  refine ⟨h1, h2, h3, h4, fun e he => ?_⟩
  have := h5 e he
  simpa only [okE, Bool.and_eq_true, decide_eq_true_eq] using this
theorem gres_eq {p : Piece} {m : Int} (h : gerr p m = 0) : gres p m = gradedL p m := by rw [gres, if_pos h]
theorem law_back (p : Piece) (m : Int) : Ret Tryd.prog XS 5 [.agg [str p.name, .sl 2 (p.edges.map cEdge), int p.grain, .sl 2 (p.notches.map cNotch), .sl 2 (p.corners.map cSpot), .sl 1 (p.widths.map cI), boo p.match_], int m] (boo true) := by
  refine garmentlaw21_GradeBack_W p m true (fun v => 0 ≤ v ∧ v ≤ p.edges.length ∧ light p 40 = true ∧ ∀ j : Nat, (h : j < p.edges.length) → (j : Int) < v → p.edges[j].line.length = 2) (fun v => p.edges.length - v.toNat)
    ⟨_, ret_light p 40 (by omega), fun h => ⟨by omega, by omega, h, fun j _ hj => by omega⟩, fun _ => ⟨_, ret_example, rfl⟩⟩ ?_
  rintro v ⟨h0, h1, hl, hj⟩
  obtain ⟨i, rfl⟩ : ∃ i : Nat, v = i := ⟨v.toNat, by omega⟩
  obtain ⟨l1, l2, l3, l4, l5⟩ := light_inv hl
  refine ⟨fun hlt => ?_, fun hge => ?_⟩
  · have hi : i < p.edges.length := by omega
    rw [ai_get rfl hi]
    refine ⟨⟨h0, hlt⟩, fun h2 => ⟨⟨by omega, by omega⟩, ⟨by omega, by omega, hl, fun j hjl hjv => ?_⟩, by dsimp only; omega⟩, fun _ => ⟨_, ret_example, rfl⟩⟩
    by_cases hji : j = i
    · subst hji; omega
    · exact hj j hjl (by omega)
  · have two : ∀ e, e ∈ p.edges → e.line.length = 2 := by
      intro e he
      obtain ⟨j, hjl, rfl⟩ := List.getElem_of_mem he
      exact hj j hjl (by omega)
    refine ⟨_, _, ret_graded p m (by omega), fun hz => ?_, fun _ => ⟨_, ret_example, rfl⟩⟩
    obtain ⟨hm, hc, -, -, -⟩ := gerr_inv hz
    have hb := back_err two hz
    rw [gres_eq hz]
    refine ⟨⟨by omega, by omega⟩, _, _, ret_graded { p with edges := gradedL p m } (-m) (by simpa using (show p.corners.length ≤ 1000000 by omega)), fun _ => ?_, fun hnz => absurd hb hnz⟩
    rw [gres_eq hb, back_list two]
    refine ⟨_, ret_sameE p.edges p.edges (by omega) fun e he => ?_, fun _ => ⟨_, ret_example, rfl⟩, fun hf => by simp at hf⟩
    rw [two e he]; omega
end Go.Ab
