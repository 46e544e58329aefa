/- The law GradeMoves. -/
import Derived.Test.YtmdeiagmlabfmaaDoorDT8
import Derived.Test.YtmdeiagmlabfmaaDoorDLMovesW
set_option linter.unusedVariables false
set_option linter.unusedSimpArgs false
set_option linter.unusedSectionVars false

namespace Go.Ab
open Go.Proofs
set_option maxRecDepth 10000
set_option linter.unusedVariables false

def mvW (d p : Spot) : Spot := ⟨IntKind.wrap .i64 (p.x + d.x), IntKind.wrap .i64 (p.y + d.y)⟩
theorem ret_pmove (l : List Spot) (d : Spot) (hn : l.length ≤ 1000000) : Ret Tryd.prog XS 18 [.sl 2 (l.map cSpot), .agg [int d.x, int d.y]] (.fr 2 ((l.map (mvW d)).map cSpot)) := by
  refine polyline_Move_W l d (l.map (mvW d)) (fun v w => 0 ≤ v ∧ v ≤ l.length ∧ w.length = l.length ∧ ∀ j : Nat, (h : j < l.length) → (j : Int) < v → w[j]? = some (mvW d l[j])) (fun v w => l.length - v.toNat)
    ⟨by omega, by omega, by omega, by omega, by omega, by simp, fun j _ hj => by omega⟩ ?_
  rintro v w ⟨h0, h1, hw, hj⟩
  obtain ⟨i, rfl⟩ : ∃ i : Nat, v = i := ⟨v.toNat, by omega⟩
  refine ⟨fun hlt => ?_, fun hge => ?_⟩
  · have hi : i < l.length := by omega
    rw [ai_get rfl hi]
    exact ⟨⟨h0, hlt⟩, ⟨by omega, by omega⟩, ⟨by omega, by omega⟩, ⟨by omega, by omega, by simpa using hw, fun j hjl hjv => set_at (by omega) (fun e => by subst e; rfl) (fun e => hj j hjl (by omega))⟩, by dsimp only; omega⟩
  · refine List.ext_getElem? fun j => ?_
    by_cases hjl : j < l.length
    · rw [hj j hjl (by omega)]; simp [hjl]
    · rw [List.getElem?_eq_none (by simp; omega), List.getElem?_eq_none (by omega)]
theorem sh_same {n k : Nat} (h : 2 ≤ n) (a : Int) : sh n k a a = a := by
  unfold sh
  rw [← Int.add_mul, show (n : Int) - 1 - k + k = (n : Int) - 1 by omega]
  exact shr_mul (by omega)
theorem along_same {l : List Spot} (h : 2 ≤ l.length) (d : Spot) : alongL l d d = l.map fun p => ⟨p.x + d.x, p.y + d.y⟩ := by
  refine List.ext_getElem (by simp [alongL_len]) fun i h1 h2 => ?_
  rw [alongL_len] at h1
  simp only [alongL, List.getElem_map, List.getElem_range, alongAt, sh_same h, List.getElem?_eq_getElem h1, Option.getD_some]
def neg (s : Spot) : Spot := ⟨ng s.x, ng s.y⟩
theorem ng_small {n : Int} (h : -1000 ≤ n ∧ n ≤ 1000) : ng n = -n := ng_in ⟨by omega, by omega⟩ (by omega)
theorem neg_list {p : Piece} {m : Int} (h0 : 0 < p.corners.length) (hs : p.corners.all shifted = true) : gradedL { p with corners := p.corners.map neg } (-m) = gradedL p m := by
  unfold gradedL
  refine List.map_congr_left fun i _ => ?_
  have e : ∀ k, mv (-m) (vx (p.corners.map neg) k) = mv m (vx p.corners k) := fun k => by
    have hk := List.all_eq_true.1 hs _ (vx_mem h0 k)
    rw [vx_map h0]
    simp only [shifted, small, Bool.and_eq_true, decide_eq_true_eq] at hk
    simp only [mv, neg, ng_small hk.1, ng_small hk.2, Int.neg_mul_neg]
  simp only [gE, e]
theorem neg_err {p : Piece} {m : Int} (h : gerr p m = 0) : gerr { p with corners := p.corners.map neg } (-m) = 0 := by
  obtain ⟨h1, h2, h3, h4, h5⟩ := gerr_inv h
  have h0 : 0 < p.corners.length := by have := (ocheck_zero.1 h4).two; omega
  rw [gerr_to (p := { p with corners := p.corners.map neg }) (by omega) (by simpa using h2) ?_ h4, neg_list h0 h3]
  · exact h5
  · rw [List.all_eq_true]
    intro c hc
    obtain ⟨s, hs, rfl⟩ := List.mem_map.1 hc
    have := List.all_eq_true.1 h3 s hs
    simp only [shifted, small, Bool.and_eq_true, decide_eq_true_eq] at this ⊢
    simp only [neg, ng_small this.1, ng_small this.2]; omega
theorem law_moves (p : Piece) (d : Spot) (m : Int) : Ret Tryd.prog XS 7 [.agg [str p.name, .sl 2 (p.edges.map cEdge), int p.grain, .sl 2 (p.notches.map cNotch), .sl 2 (p.corners.map cSpot), .sl 1 (p.widths.map cI), boo p.match_], .agg [int d.x, int d.y], int m] (boo true) := by
  refine garmentlaw21_GradeMoves_W p d m true
    (fun l e v w => light p 40 = true ∧ l = gres p m ∧ e = gerr p m ∧ 0 ≤ v ∧ v ≤ p.corners.length ∧ w = (p.corners.take v.toNat).map neg) (fun l e v w => p.corners.length - v.toNat)
    (fun v w => light p 40 = true ∧ 0 ≤ v ∧ v ≤ p.corners.length ∧ w = List.replicate v.toNat d) (fun v w => p.corners.length - v.toNat)
    (fun l v => light p 40 = true ∧ gerr { p with corners := List.replicate p.corners.length d } m = 0 ∧ l = gradedL { p with corners := List.replicate p.corners.length d } m ∧ 0 ≤ v ∧ v ≤ p.edges.length) (fun l v => p.edges.length - v.toNat)
    ⟨_, ret_light p 40 (by omega), fun hl => ?_, fun _ => ⟨_, ret_example, rfl⟩⟩ ?_ ?_ ?_
  · have l2 := (light_inv hl).2.1
    exact ⟨_, _, ret_graded p m (by omega), hl, rfl, rfl, by omega, by omega, by simp⟩
  · rintro l e v w ⟨hl, rfl, rfl, h0, h1, rfl⟩
    obtain ⟨l1, l2, l3, l4, l5⟩ := light_inv hl
    obtain ⟨i, rfl⟩ : ∃ i : Nat, v = i := ⟨v.toNat, by omega⟩
    refine ⟨fun hlt => ?_, fun hge => ?_⟩
    · have hi : i < p.corners.length := by omega
      rw [ai_get rfl hi]
      have e : (p.corners.take (i : Int).toNat).map neg ++ [(⟨IntKind.wrap .i64 (-p.corners[i].x), IntKind.wrap .i64 (-p.corners[i].y)⟩ : Spot)] = (p.corners.take ((i : Int) + 1).toNat).map neg := by
        rw [show ((i : Int) + 1).toNat = i + 1 by omega, show (i : Int).toNat = i from rfl, List.take_add_one, List.map_append]
        simp [hi, neg, ng]
      refine ⟨⟨h0, hlt⟩, ?_, ⟨by omega, by omega⟩, ⟨hl, rfl, rfl, by omega, by omega, e⟩, by dsimp only; omega⟩
      rw [e]; simp only [Cap, List.length_map, List.length_take]; omega
    · have e : (p.corners.take (i : Int).toNat).map neg = p.corners.map neg := by rw [List.take_of_length_le (by omega)]
      have next : light p 40 = true ∧ (0 : Int) ≤ 0 ∧ (0 : Int) ≤ p.corners.length ∧ ([] : List Spot) = List.replicate (0 : Int).toNat d := ⟨hl, by omega, by omega, rfl⟩
      rw [e]
      refine ⟨fun hz => ?_, fun _ => next⟩
      obtain ⟨hm, hc, hs, ho, ho2⟩ := gerr_inv hz
      have O := ocheck_zero.1 ho2
      have h0c : 0 < p.corners.length := by have := (ocheck_zero.1 ho).two; omega
      have hn := neg_err hz
      have em : IntKind.wrap .i64 (-m) = -m := wi64 ⟨by omega, by omega⟩
      rw [em]
      refine ⟨_, _, ret_graded { p with corners := p.corners.map neg } (-m) (by simp; omega), fun _ => ?_, fun h => absurd hn h⟩
      rw [gres_eq hn, neg_list h0c hs, gres_eq hz]
      have := O.sixteen
      exact ⟨_, ret_sameE _ _ (by omega) (fun x hx => by have := (O.lines x hx).forty; omega), fun _ => next, fun hf => by simp at hf⟩
  · rintro v w ⟨hl, h0, h1, rfl⟩
    obtain ⟨l1, l2, l3, l4, l5⟩ := light_inv hl
    obtain ⟨i, rfl⟩ : ∃ i : Nat, v = i := ⟨v.toNat, by omega⟩
    refine ⟨fun hlt => ?_, fun hge => ?_⟩
    · have e : List.replicate (i : Int).toNat d ++ [d] = List.replicate ((i : Int) + 1).toNat d := by
        rw [show ((i : Int) + 1).toNat = i + 1 by omega, show (i : Int).toNat = i from rfl, List.replicate_succ']
      refine ⟨?_, ⟨by omega, by omega⟩, ⟨hl, by omega, by omega, e⟩, by dsimp only; omega⟩
      rw [e]; simp only [Cap, List.length_replicate]; omega
    · rw [show (i : Int).toNat = p.corners.length by omega]
      refine ⟨_, _, ret_graded { p with corners := List.replicate p.corners.length d } m (by simp; omega), fun hz => ⟨fun _ => ⟨hl, hz, gres_eq hz, by omega, by omega⟩, fun hne => absurd (by rw [gres_eq hz, gradedL_len]) hne⟩, fun _ => ⟨_, ret_example, rfl⟩⟩
  · rintro l v ⟨hl, hz, rfl, h0, h1⟩
    obtain ⟨l1, l2, l3, l4, l5⟩ := light_inv hl
    obtain ⟨i, rfl⟩ : ∃ i : Nat, v = i := ⟨v.toNat, by omega⟩
    refine ⟨fun hlt => ?_, fun _ => ⟨_, ret_example, rfl⟩⟩
    obtain ⟨hm, hc, hs, ho, ho2⟩ := gerr_inv hz
    have O1 : Outl p.edges := ocheck_zero.1 ho
    have O2 := ocheck_zero.1 ho2
    have hi : i < p.edges.length := by omega
    have hc' : p.corners.length = p.edges.length := by simpa using hc
    have h0c : 0 < p.corners.length := by have := O1.two; omega
    have hd : shifted d = true := List.all_eq_true.1 hs d (List.mem_replicate.2 ⟨by omega, rfl⟩)
    have ev : ∀ k, vx (List.replicate p.corners.length d) k = d := fun k => List.eq_of_mem_replicate (vx_mem (p := List.replicate p.corners.length d) (by rw [List.length_replicate]; exact h0c) k)
    have sm := mv_box hm hd
    obtain ⟨⟨s1, s2⟩, s3, s4⟩ := sm
    simp only [mv] at s1 s2 s3 s4
    have hL := O1.lines _ (List.getElem_mem hi)
    have hL2 := O2.lines _ (List.getElem_mem (l := gradedL { p with corners := List.replicate p.corners.length d } m) (n := i) (by rw [gradedL_len]; exact hi))
    rw [ai_get rfl hi, ai_get (i := i) rfl (by rw [gradedL_len]; exact hi)]
    have eg : (gradedL { p with corners := List.replicate p.corners.length d } m)[i]'(by rw [gradedL_len]; exact hi) = ⟨p.edges[i].name, alongL p.edges[i].line (mv m d) (mv m d)⟩ := by
      rw [gradedL_at (p := { p with corners := List.replicate p.corners.length d }) hi, gE_at (p := { p with corners := List.replicate p.corners.length d }) hi]
      simp only [ev]
    rw [eg] at hL2 ⊢
    rw [show IntKind.wrap .i64 (m * d.x) = m * d.x from wi64 ⟨by omega, by omega⟩, show IntKind.wrap .i64 (m * d.y) = m * d.y from wi64 ⟨by omega, by omega⟩]
    have e : p.edges[i].line.map (mvW ⟨m * d.x, m * d.y⟩) = alongL p.edges[i].line (mv m d) (mv m d) := by
      rw [along_same hL.two]
      refine List.map_congr_left fun q hq => ?_
      obtain ⟨⟨g1, g2⟩, g3, g4⟩ := hL.grid q hq
      simp only [mvW, mv]
      rw [wi64 ⟨by omega, by omega⟩, wi64 ⟨by omega, by omega⟩]
    have := hL2.forty
    have := hL.forty
    refine ⟨⟨h0, hlt⟩, ⟨h0, by rw [gradedL_len]; exact hlt⟩, _, ret_pmove p.edges[i].line ⟨m * d.x, m * d.y⟩ (by omega), _, ret_spots _ _ (by omega), fun _ => ⟨⟨by omega, by omega⟩, ⟨hl, hz, rfl, by omega, by omega⟩, by dsimp only; omega⟩, fun hf => ?_⟩
    rw [e] at hf; simp at hf
end Go.Ab
