/- The laws SeamPartners, SeamCongruents, SeamMoves, SeamPartner. -/
import Derived.Test.YtjbodjmkfklleaaDoorEV3
import Derived.Test.YtjbodjmkfklleaaDoorEEx2
import Derived.Test.YtjbodjmkfklleaaDoorELMovesW
set_option linter.unusedVariables false
set_option linter.unusedSimpArgs false
set_option linter.unusedSectionVars false

namespace Go.Ab
open Go.Proofs
set_option maxRecDepth 10000
set_option linter.unusedVariables false

def nrm (t : Turn) : Nat := (if t.flip = true then 4 else 0) + (t.quarter % 4).toNat
theorem nrm_lt (t : Turn) : nrm t < 8 := by unfold nrm; split <;> omega
theorem app_nrm (t : Turn) : app (tt (nrm t)) = app t := by
  funext p
  have e1 : (tt (nrm t)).flip = t.flip := by
    unfold tt nrm
    cases t.flip <;> simp <;> omega
  have e2 : (tt (nrm t)).quarter % 4 = t.quarter % 4 := by
    unfold tt nrm
    simp only
    rw [Int.tmod_eq_emod_of_nonneg (by omega)]
    split <;> omega
  unfold app
  rw [e1, e2]
theorem con_of_fit {a b : List Spot} {i : Nat} (h0 : a.length ≠ 0) (hl : a.length = b.length) (hi : i < 8) (h : fitB a b i = true) : ∃ j, conI a b = some j ∧ j < 8 ∧ fitB a b j = true := by
  cases hc : conI a b with
  | none =>
    rw [conI, if_neg (by omega), List.find?_eq_none] at hc
    exact absurd h (hc i (List.mem_range.2 hi))
  | some j =>
    rw [conI, if_neg (by omega), List.find?_range_eq_some] at hc
    exact ⟨j, rfl, by simpa using hc.2.1, hc.1⟩
theorem ai_map {a : List Spot} {f : Spot → Spot} {k : Nat} (hk : k < a.length) : ai (a.map f) (k : Int) = f (ai a (k : Int)) := by
  rw [ai_get rfl (show k < (a.map f).length by simpa using hk), ai_get rfl hk]; simp
theorem law_moves (l : List Spot) (t : Turn) (d : Spot) (hl : ∀ p, p ∈ l → Wd p) (ht : InR t.quarter) (hd : Wd d) : Ret Tryd.prog XS 8 [.sl 2 (l.map cSpot), .agg [boo t.flip, int t.quarter], .agg [int d.x, int d.y]] (boo true) := by
  refine garmentlaw22_SeamMoves_W l t d true (fun w v => 0 ≤ v ∧ v ≤ l.length ∧ l.length ≤ 60 ∧ l.length ≠ 0 ∧ w = (l.take v.toNat).map fun p => mvW d (app t p)) (fun w v => l.length - v.toNat)
    (fun w u c v => 0 ≤ v ∧ v ≤ l.length ∧ l.length ≤ 60 ∧ w.length = l.length ∧ InR u.quarter ∧ Fit (l.map (app u)) w ∧ c = dW (ai (l.map (app u)) 0) (ai w 0)) (fun w u c v => l.length - v.toNat)
    ⟨fun _ => ⟨_, ret_alive, rfl⟩, fun h0 => ⟨fun _ => ⟨_, ret_alive, rfl⟩, fun h1 => ⟨by omega, by omega, by omega, by omega, by simp⟩⟩⟩ ?_ ?_
  · rintro w v ⟨v0, v1, h60, h0, rfl⟩
    obtain ⟨i, rfl⟩ : ∃ i : Nat, v = i := ⟨v.toNat, by omega⟩
    refine ⟨fun hlt => ?_, fun hge => ?_⟩
    · have hi : i < l.length := by omega
      rw [ai_get rfl hi]
      have e : ((l.take (i : Int).toNat).map fun p => mvW d (app t p)) ++ [(⟨IntKind.wrap .i64 ((app t l[i]).x + d.x), IntKind.wrap .i64 ((app t l[i]).y + d.y)⟩ : Spot)] = (l.take ((i : Int) + 1).toNat).map fun p => mvW d (app t p) := by
        rw [show ((i : Int) + 1).toNat = i + 1 by omega, show (i : Int).toNat = i from rfl, List.take_add_one, List.map_append]
        simp [hi, mvW, wr]
      refine ⟨⟨v0, hlt⟩, _, ret_rapply t _ ht (hl _ (List.getElem_mem hi)), ?_, ⟨by omega, by omega⟩, ⟨by omega, by omega, h60, h0, e⟩, by dsimp only; omega⟩
      rw [e]; simp only [Cap, List.length_map, List.length_take]; omega
    · have ew : ((l.take (i : Int).toNat).map fun p => mvW d (app t p)) = l.map fun p => mvW d (app t p) := by rw [List.take_of_length_le (by omega)]
      rw [ew]
      have hf : fitB l (l.map fun p => mvW d (app t p)) (nrm t) = true := by
        rw [fitB_iff, app_nrm]
        intro k hk
        rw [List.length_map] at hk
        have a0 : ∀ f : Spot → Spot, ai (l.map f) 0 = f (ai l 0) := fun f => ai_map (k := 0) (by omega)
        rw [a0, a0, ai_map hk, ai_map hk, dW_mvW hd]
      obtain ⟨j, hj, hj8, hjf⟩ := con_of_fit h0 (by simp) (nrm_lt t) hf
      obtain ⟨c1, c2, c3⟩ := con_some hj
      refine ⟨_, _, _, ret_congruent l _ (by omega), fun _ => ?_, fun h => by rw [c3] at h; cases h⟩
      rw [c1, c2]
      have q := tt_quarter hj8
      have qe : (tt (j : Int)).quarter = (j : Int) % 4 := by show (j : Int).tmod 4 = _; exact Int.tmod_eq_emod_of_nonneg (by omega)
      refine ⟨fun h => by omega, fun _ => ⟨fun h => by omega, fun _ => ⟨by omega, by omega, h60, by simp, q, ?_, rfl⟩⟩⟩
      exact fitB_iff.1 hjf
  · rintro w u c v ⟨v0, v1, h60, hw, hu, hf, rfl⟩
    obtain ⟨i, rfl⟩ : ∃ i : Nat, v = i := ⟨v.toNat, by omega⟩
    refine ⟨fun hlt => ?_, fun _ => ⟨_, ret_alive, rfl⟩⟩
    have hi : i < l.length := by omega
    have key := hf i (by simpa using hi)
    rw [ai_map hi] at key
    rw [← key, ai_get (l := l) rfl hi]
    refine ⟨⟨v0, hlt⟩, _, ret_rapply u _ hu (hl _ (List.getElem_mem hi)), ⟨by omega, by omega⟩, fun _ => ⟨fun _ => ⟨⟨by omega, by omega⟩, ⟨by omega, by omega, h60, hw, hu, hf, rfl⟩, by dsimp only; omega⟩, fun h => absurd rfl h⟩, fun h => absurd rfl h⟩
end Go.Ab
