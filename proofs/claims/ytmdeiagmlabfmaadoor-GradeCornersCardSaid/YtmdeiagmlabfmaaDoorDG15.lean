/- Chapter 21: the laws GradeBack and GradeCorners, over lists and numbers. -/
import Derived.Test.YtmdeiagmlabfmaaDoorDG14
import Derived.Test.YtmdeiagmlabfmaaDoorDEx
import Derived.Test.YtmdeiagmlabfmaaDoorDLCornersW
set_option linter.unusedVariables false
set_option linter.unusedSimpArgs false
set_option linter.unusedSectionVars false

namespace Go.Ab
open Go.Proofs
set_option maxRecDepth 10000
set_option linter.unusedVariables false

theorem ai_zero {α : Type} [Inhabited α] {l : List α} (h : 0 < l.length) : ai l 0 = l[0] := ai_get (i := 0) rfl h
theorem light_inv {p : Piece} {a : Int} (h : light p a = true) : p.edges.length ≤ 20 ∧ p.corners.length ≤ 20 ∧ p.widths.length ≤ 20 ∧ p.notches.length ≤ 20 ∧ ∀ e, e ∈ p.edges → (e.line.length : Int) ≤ a ∧ e.name.size ≤ 100 := by
  simp only [light, Bool.and_eq_true, decide_eq_true_eq, List.all_eq_true] at h
  obtain ⟨h1, h2, h3, h4, h5, _⟩ := h
  refine ⟨h1, h2, h3, h4, fun e he => ?_⟩
  have := h5 e he
  simpa only [okE, Bool.and_eq_true, decide_eq_true_eq] using this
theorem gres_eq {p : Piece} {m : Int} (h : gerr p m = 0) : gres p m = gradedL p m := by rw [gres, if_pos h]
theorem zero_list {p : Piece} (h : ∀ e, e ∈ p.edges → 2 ≤ e.line.length) : gradedL p 0 = p.edges := by
  refine List.ext_getElem (by simp [gradedL_len]) fun i h1 h2 => ?_
  rw [gradedL_at h2, gE_at h2]
  have e : alongL p.edges[i].line (mv 0 (vx p.corners i)) (mv 0 (vx p.corners (i + 1))) = p.edges[i].line := by
    have h2l := h _ (List.getElem_mem h2)
    refine List.ext_getElem (by simp [alongL_len]) fun k k1 k2 => ?_
    simp only [alongL, List.getElem_map, List.getElem_range, alongAt, List.getElem?_eq_getElem k2, Option.getD_some, mv, Int.zero_mul, sh_zero h2l]
    simp
  rw [e]
theorem lines_two {l : List Edge} (h : ocheck l = 0) : ∀ e, e ∈ l → 2 ≤ e.line.length ∧ e.line.length ≤ 40 := fun e he => check_len (edge_lines (ocheck_inv h).2.2.1 e he)
theorem zero_err {p : Piece} {m : Int} (hg : gerr p m = 0) : gerr p 0 = 0 := by
  obtain ⟨h1, h2, h3, h4, h5⟩ := gerr_inv hg
  rw [gerr_to (by omega) h2 h3 h4, zero_list fun e he => (lines_two h4 e he).1]; exact h4
theorem law_corners (p : Piece) (m : Int) : Ret Tryd.prog XS 4 [.agg [str p.name, .sl 2 (p.edges.map cEdge), int p.grain, .sl 2 (p.notches.map cNotch), .sl 2 (p.corners.map cSpot), .sl 1 (p.widths.map cI), boo p.match_], int m] (boo true) := by
  refine garmentlaw21_GradeCorners_W p m true (fun l v => 0 ≤ v ∧ v ≤ p.edges.length ∧ light p 40 = true ∧ gerr p m = 0 ∧ l = gradedL p m) (fun _ v => p.edges.length - v.toNat)
    ⟨_, ret_light p 40 (by omega), fun h => ?_, fun _ => ⟨_, ret_example, rfl⟩⟩ ?_
  · obtain ⟨l1, l2, l3, l4, l5⟩ := light_inv h
    refine ⟨_, _, ret_graded p m (by omega), fun hz => ?_, fun hnz => ⟨fun _ => ⟨_, ret_example, rfl⟩, fun hne => absurd (by rw [gres, if_neg hnz]; rfl) hne⟩⟩
    obtain ⟨hm, hc, -, ho, -⟩ := gerr_inv hz
    refine ⟨_, _, ret_graded p 0 (by omega), fun h0 => ?_, fun hnz => absurd (zero_err hz) hnz⟩
    rw [gres_eq h0, zero_list fun e he => (lines_two ho e he).1, gres_eq hz]
    refine ⟨_, ret_sameE p.edges p.edges (by omega) fun e he => (by have := (lines_two ho e he).2; omega), fun _ => ⟨fun _ => ⟨fun _ => ⟨by omega, by omega, h, hz, rfl⟩, fun hn => absurd (by omega) hn⟩, fun hn => absurd (by rw [gradedL_len]) hn⟩, fun hf => by simp at hf⟩
  · rintro l v ⟨h0, h1, hl, hz, rfl⟩
    obtain ⟨i, rfl⟩ : ∃ i : Nat, v = i := ⟨v.toNat, by omega⟩
    obtain ⟨l1, l2, l3, l4, l5⟩ := light_inv hl
    obtain ⟨hm, hc, hs, ho, -⟩ := gerr_inv hz
    refine ⟨fun hlt => ?_, fun _ => ⟨_, ret_example, rfl⟩⟩
    have hi : i < p.edges.length := by omega
    have hic : i < p.corners.length := by omega
    have hgl : i < (gradedL p m).length := by rw [gradedL_len]; exact hi
    have h2 := lines_two ho _ (List.getElem_mem hi)
    have sm := mv_box hm (List.all_eq_true.1 hs _ (vx_mem (by omega) i))
    rw [ai_get rfl hi, ai_get rfl hgl, gradedL_at hi, gE_at hi, ai_get rfl hic, ← vx_lt hic]
    have e0 : ai (alongL p.edges[i].line (mv m (vx p.corners i)) (mv m (vx p.corners (i + 1)))) 0 = ⟨(ai p.edges[i].line 0).x + (mv m (vx p.corners i)).x, (ai p.edges[i].line 0).y + (mv m (vx p.corners i)).y⟩ := by
      rw [ai_zero (show 0 < (alongL p.edges[i].line (mv m (vx p.corners i)) (mv m (vx p.corners (i + 1)))).length by rw [alongL_len]; omega), ai_zero (show 0 < p.edges[i].line.length by omega)]
      simp only [alongL, List.getElem_map, List.getElem_range, alongAt, sh_first h2.1, List.getElem?_eq_getElem (show 0 < p.edges[i].line.length by omega), Option.getD_some]
    obtain ⟨⟨s1, s2⟩, s3, s4⟩ := sm
    simp only [mv] at s1 s2 s3 s4
    have ex : (ai (alongL p.edges[i].line (mv m (vx p.corners i)) (mv m (vx p.corners (i + 1)))) 0).x = (ai p.edges[i].line 0).x + m * (vx p.corners i).x := by rw [e0]; rfl
    have ey : (ai (alongL p.edges[i].line (mv m (vx p.corners i)) (mv m (vx p.corners (i + 1)))) 0).y = (ai p.edges[i].line 0).y + m * (vx p.corners i).y := by rw [e0]; rfl
    have g0 := check_grid (edge_lines (ocheck_inv ho).2.2.1 _ (List.getElem_mem hi)) _ (ai_mem (l := p.edges[i].line) (v := 0) ⟨by omega, by omega⟩)
    obtain ⟨⟨g1, g2⟩, g3, g4⟩ := g0
    dsimp only
    refine ⟨⟨h0, hlt⟩, ⟨h0, by rw [gradedL_len]; exact hlt⟩, ⟨h0, by omega⟩, fun _ => ⟨fun hz => by omega, fun _ => ⟨fun _ => ⟨⟨by omega, by simp only [alongL_len]; omega⟩, ⟨by omega, by omega⟩, ⟨by omega, by omega⟩, ⟨by omega, by omega⟩, fun _ => ⟨⟨by omega, by omega⟩, ⟨by omega, by omega⟩, fun _ => ⟨⟨by omega, by omega⟩, ⟨by omega, by omega, hl, hz, rfl⟩, by omega⟩, fun hn => absurd (by omega) hn⟩, fun hn => absurd (by omega) hn⟩, fun hn => absurd (by rw [alongL_len]) hn⟩⟩, fun hn => absurd rfl hn⟩
end Go.Ab
