/- The law SeamGrades: congruent edges whose corners go onto each other stay congruent when they are graded. -/
import Derived.Test.YtjbodjmkfklleaaDoorEV6
import Derived.Test.YtjbodjmkfklleaaDoorET8
import Derived.Test.YtjbodjmkfklleaaDoorET11
import Derived.Test.YtjbodjmkfklleaaDoorELGradesW
set_option linter.unusedVariables false
set_option linter.unusedSimpArgs false
set_option linter.unusedSectionVars false

namespace Go.Ab
open Go.Proofs
set_option maxRecDepth 10000
set_option linter.unusedVariables false

def tr (d p : Spot) : Spot := ⟨p.x + d.x, p.y + d.y⟩
theorem along_tr (d : Spot) (l : List Spot) (a b : Spot) : alongL (l.map (tr d)) a b = (alongL l a b).map (tr d) := by
  refine List.ext_getElem (by simp [alongL_len]) fun i h1 h2 => ?_
  rw [alongL_len, List.length_map] at h1
  simp only [alongL, List.getElem_map, List.getElem_range, alongAt, List.length_map, List.getElem?_map, List.getElem?_eq_getElem h1, Option.map_some, Option.getD_some, tr, Spot.mk.injEq]
  omega
theorem sq_tr (d p q : Spot) : sq (tr d p) (tr d q) = sq p q := by
  unfold sq tr
  simp only []
  rw [show q.x + d.x - (p.x + d.x) = q.x - p.x by omega, show q.y + d.y - (p.y + d.y) = q.y - p.y by omega]
theorem total_tr (d : Spot) {l : List Spot} (h : 0 < l.length) : total (l.map (tr d)) = total l := by
  rw [total_sum (by simpa using h), total_sum h, List.length_map]
  refine sumN_congr fun i hi => ?_
  rw [segAt_lt (by simp; omega), segAt_lt (by omega)]
  simp only [List.getElem_map, seg, sq_tr]
theorem mvW_G {p q r : Spot} (hp : G p) (hq : G q) (hr : G r) : mvW (dW p q) r = ⟨r.x + (q.x - p.x), r.y + (q.y - p.y)⟩ := by
  obtain ⟨⟨a1, a2⟩, a3, a4⟩ := hp
  obtain ⟨⟨b1, b2⟩, b3, b4⟩ := hq
  obtain ⟨⟨c1, c2⟩, c3, c4⟩ := hr
  simp only [mvW, dW]
  rw [w64_in (n := q.x - p.x) ⟨by omega, by omega⟩, w64_in (n := q.y - p.y) ⟨by omega, by omega⟩, w64_in ⟨by omega, by omega⟩, w64_in ⟨by omega, by omega⟩]
theorem conI_inv {a b : List Spot} {i : Nat} (h : conI a b = some i) : a.length ≠ 0 ∧ a.length = b.length ∧ i < 8 ∧ fitB a b i = true := by
  unfold conI at h
  split at h
  · cases h
  · exact ⟨by omega, by omega, List.mem_range.1 (List.mem_of_find?_eq_some h), List.find?_some h⟩
theorem grid_app {l : List Spot} (h : ∀ p, p ∈ l → G p) (t : Turn) : l.map (app t) = l.map (lin t) := List.map_congr_left fun p hp => app_lin (h p hp).mild t
theorem core {a b : List Spot} {i : Nat} {m : Int} {c0 c1 d0 d1 : Spot} (ha : ∀ p, p ∈ a → G p) (hb : ∀ p, p ∈ b → G p) (ha' : ∀ p, p ∈ alongL a (mv m c0) (mv m c1) → G p) (hb' : ∀ p, p ∈ alongL b (mv m d0) (mv m d1) → G p)
    (hc : conI a b = some i) (h0 : lin (tt i) c0 = d0) (h1 : lin (tt i) c1 = d1) : conB (alongL a (mv m c0) (mv m c1)) (alongL b (mv m d0) (mv m d1)) = true ∧ total (alongL a (mv m c0) (mv m c1)) = total (alongL b (mv m d0) (mv m d1)) := by
  obtain ⟨n0, hl, hi, hf⟩ := conI_inv hc
  have hf := fitB_iff.1 hf
  rw [grid_app ha] at hf
  have k := iso_lin (tt i)
  have z0 : ai (a.map (lin (tt i))) 0 = lin (tt i) (ai a 0) := ai_map (k := 0) (by omega)
  have ga : ∀ j : Nat, j < a.length → G (lin (tt i) (ai a (j : Int))) := fun j hj => k.g _ (ha _ (ai_mem ⟨by omega, by omega⟩))
  have ga0 : G (lin (tt i) (ai a 0)) := ga 0 (by omega)
  have gb0 : G (ai b 0) := hb _ (ai_mem ⟨by omega, by omega⟩)
  have eb : b = (a.map (lin (tt i))).map (tr ⟨(ai b 0).x - (lin (tt i) (ai a 0)).x, (ai b 0).y - (lin (tt i) (ai a 0)).y⟩) := by
    refine List.ext_getElem (by simp; omega) fun j h1 h2 => ?_
    have hj : j < a.length := by omega
    have := hf j (by simpa using hj)
    rw [z0, ai_map (k := j) hj, mvW_G ga0 gb0 (ga j hj), ai_nat h1] at this
    rw [← this, List.getElem_map, List.getElem_map, ai_nat hj]; rfl
  generalize (⟨(ai b 0).x - (lin (tt i) (ai a 0)).x, (ai b 0).y - (lin (tt i) (ai a 0)).y⟩ : Spot) = d at eb
  have e2 : alongL b (mv m d0) (mv m d1) = ((alongL a (mv m c0) (mv m c1)).map (lin (tt i))).map (tr d) := by
    rw [eb, along_tr, ← h0, ← h1, mv_lin, mv_lin, along_map k]
  have hl' := alongL_len a (mv m c0) (mv m c1)
  generalize alongL a (mv m c0) (mv m c1) = a' at *
  generalize alongL b (mv m d0) (mv m d1) = b' at *
  have hlb : b'.length = a'.length := by rw [e2]; simp
  have fit : Fit (a'.map (app (tt i))) b' := by
    intro j hj
    rw [List.length_map] at hj
    have g0 : G (ai a' 0) := ha' _ (ai_mem ⟨by omega, by omega⟩)
    have gj : G (ai a' (j : Int)) := ha' _ (ai_mem ⟨by omega, by omega⟩)
    have gb : G (ai b' 0) := hb' _ (ai_mem ⟨by omega, by omega⟩)
    have zb : ∀ j : Nat, j < a'.length → ai b' (j : Int) = tr d (lin (tt i) (ai a' (j : Int))) := fun j hj => by
      rw [ai_nat (show j < b'.length by omega), ai_nat hj]
      simp only [e2, List.getElem_map]
    have z1 : ai (a'.map (app (tt i))) 0 = lin (tt i) (ai a' 0) := by rw [grid_app ha']; exact ai_map (k := 0) (by omega)
    have zb0 : ai b' 0 = tr d (lin (tt i) (ai a' 0)) := zb 0 (by omega)
    rw [z1, grid_app ha', ai_map hj, mvW_G (k.g _ g0) gb (k.g _ gj), zb j hj, zb0]
    simp only [tr, Spot.mk.injEq]
    omega
  obtain ⟨j, hj, _, _⟩ := con_of_fit (a := a') (b := b') (by omega) hlb.symm hi (fitB_iff.2 fit)
  refine ⟨(con_some hj).2.2, ?_⟩
  rw [e2, total_tr d (by simp; omega), total_map k (by omega)]
theorem gline {p : Piece} {m : Int} (hg : gerr p m = 0) {i : Nat} (hi : i < p.edges.length) :
    (ai (gradedL p m) (i : Int)).line = alongL (ai p.edges (i : Int)).line (mv m (vx p.corners i)) (mv m (vx p.corners (i + 1))) ∧ (∀ q, q ∈ (ai p.edges (i : Int)).line → G q) ∧ (∀ q, q ∈ (ai (gradedL p m) (i : Int)).line → G q) ∧ check (ai (gradedL p m) (i : Int)).line = 0 ∧ (∀ j, Mild (vx p.corners j)) ∧ (ai p.edges (i : Int)).line.length ≤ 40 ∧ (ai (gradedL p m) (i : Int)).line.length ≤ 40 := by
  obtain ⟨h1, h2, h3, h4, h5⟩ := gerr_inv hg
  have c1 : check (ai p.edges (i : Int)).line = 0 := edge_lines (ocheck_inv h4).2.2.1 _ (ai_mem ⟨by omega, by omega⟩)
  have c2 : check (ai (gradedL p m) (i : Int)).line = 0 := edge_lines (ocheck_inv h5).2.2.1 _ (ai_mem ⟨by omega, by rw [gradedL_len]; omega⟩)
  refine ⟨?_, check_grid c1, check_grid c2, c2, fun j => shifted_mild (List.all_eq_true.1 h3 _ (vx_mem (by omega) j)), (check_len c1).2, (check_len c2).2⟩
  rw [ai_nat (show i < (gradedL p m).length by rw [gradedL_len]; exact hi), ai_nat hi, gradedL_at hi, gE_at hi]
theorem tmod_vx {l : List Spot} {i n : Nat} (h : (n : Int) = l.length) (h0 : 0 < l.length) : Idx (((i : Int) + 1).tmod (n : Int)) l.length ∧ ai l (((i : Int) + 1).tmod (n : Int)) = vx l (i + 1) := by
  have e : ((i : Int) + 1).tmod (n : Int) = (((i + 1) % l.length : Nat) : Int) := tmod_nat (by omega) (by omega)
  have hm := Nat.mod_lt (i + 1) h0
  rw [e]
  exact ⟨⟨by omega, by omega⟩, by rw [ai_vx rfl hm, vx_mod]⟩
theorem law_grades (p q : Piece) (x : Garmentlaw22Edges) : Ret Tryd.prog XS 7 [.agg [str p.name, .sl 2 (p.edges.map cEdge), int p.grain, .sl 2 (p.notches.map cNotch), .sl 2 (p.corners.map cSpot), .sl 1 (p.widths.map cI), boo p.match_], .agg [str q.name, .sl 2 (q.edges.map cEdge), int q.grain, .sl 2 (q.notches.map cNotch), .sl 2 (q.corners.map cSpot), .sl 1 (q.widths.map cI), boo q.match_], .agg [int x.i, int x.k, int x.multiple]] (boo true) := by
  have al : ∃ r : Bool, Ret Tryd.prog XS 12 [] (boo r) ∧ true = r := ⟨_, ret_alive, rfl⟩
  refine garmentlaw22_SeamGrades_W p q x true ⟨_, ret_light p 80 (by decide), fun lp => ⟨_, ret_light q 80 (by decide), fun lq => ?_, fun _ => al⟩, fun _ => al⟩
  have ip := light_inv lp
  have iq := light_inv lq
  refine ⟨_, _, ret_graded p x.multiple (by omega), _, _, ret_graded q x.multiple (by omega), fun gp => ⟨fun gq => ?_, fun _ => al⟩, fun _ => al⟩
  rw [gres_eq gp, gres_eq gq, gradedL_len, gradedL_len]
  refine ⟨fun _ => al, fun i0 => ⟨fun _ => al, fun i1 => ⟨fun _ => al, fun k0 => ⟨fun _ => al, fun k1 => ⟨fun _ => ⟨fun _ => ?_, fun h => absurd rfl h⟩, fun h => absurd rfl h⟩⟩⟩⟩⟩
  obtain ⟨⟨i, hxi⟩, k, hxk⟩ : (∃ i : Nat, x.i = i) ∧ ∃ k : Nat, x.k = k := ⟨⟨x.i.toNat, by omega⟩, x.k.toNat, by omega⟩
  rw [hxi] at i0 i1
  rw [hxk] at k0 k1
  rw [hxi, hxk]
  have hi : i < p.edges.length := by omega
  have hk : k < q.edges.length := by omega
  obtain ⟨pl, pg, pg', pc, pm, p40, p40'⟩ := gline gp hi
  obtain ⟨ql, qg, qg', qc, qm, q40, q40'⟩ := gline gq hk
  have pC : p.corners.length = p.edges.length := (gerr_inv gp).2.1
  have qC : q.corners.length = q.edges.length := (gerr_inv gq).2.1
  have al' : ∀ {P : Prop}, ∃ r : Bool, Ret Tryd.prog XS 12 [] (boo r) ∧ true = r := fun {P} => al
  refine ⟨⟨by omega, by omega⟩, ⟨by omega, by omega⟩, _, _, _, ret_congruent (ai p.edges (i : Int)).line (ai q.edges (k : Int)).line (by omega), fun hc => ⟨fun _ => ⟨fun _ => ?_, fun _ => al⟩, fun _ => al⟩, fun _ => al⟩
  obtain ⟨n, hn⟩ : ∃ n, conI (ai p.edges (i : Int)).line (ai q.edges (k : Int)).line = some n := Option.isSome_iff_exists.1 hc
  have n8 := (conI_inv hn).2.2.1
  have ct := (con_some hn).1
  rw [ct]
  obtain ⟨ti, te⟩ := tmod_vx (l := p.corners) (i := i) (n := p.edges.length) (by omega) (by omega)
  obtain ⟨ui, ue⟩ := tmod_vx (l := q.corners) (i := k) (n := q.edges.length) (by omega) (by omega)
  have p0 : ai p.corners (i : Int) = vx p.corners i := ai_vx rfl (by omega)
  have q0 : ai q.corners (k : Int) = vx q.corners k := ai_vx rfl (by omega)
  refine ⟨⟨by omega, by omega⟩, _, ret_apply (tt n) _ (tt_quarter n8), ⟨by omega, by omega⟩, by omega, ti, _, ret_apply (tt n) _ (tt_quarter n8), ⟨by omega, by omega⟩, fun h6 => ⟨⟨by omega, by omega⟩, by omega, ui, fun h7 => ?_, fun _ => al⟩, fun _ => al⟩
  rw [p0, q0, app_lin (pm i)] at h6
  rw [te, ue, app_lin (pm (i + 1))] at h7
  have pg2 := pg'
  have qg2 := qg'
  rw [pl] at pg2
  rw [ql] at qg2
  obtain ⟨cb, tot⟩ := core pg qg pg2 qg2 hn h6 h7
  rw [← pl, ← ql] at cb tot
  refine ⟨⟨by omega, by omega⟩, ⟨by omega, by omega⟩, _, _, _, ret_congruent _ _ (by omega), _, _, ret_length _, _, _, ret_length _, fun _ => ⟨fun _ => ⟨fun _ => ⟨fun _ => al, fun h => absurd ?_ h⟩, fun h => absurd qc h⟩, fun h => absurd pc h⟩, fun h => ?_⟩
  · rw [if_pos pc, if_pos qc, tot]
  · rw [cb] at h; cases h
end Go.Ab
