/- Chapter 22: the lengths of a seam's sides, the seams that don't fit; the laws SeamSides and SeamEase. -/
import Derived.Test.YtjbodjmkfklleaaDoorEV4
import Derived.Test.YtjbodjmkfklleaaDoorET8
import Derived.Test.YtjbodjmkfklleaaDoorEG15
import Derived.Test.YtjbodjmkfklleaaDoorELEaseW
set_option linter.unusedVariables false
set_option linter.unusedSimpArgs false
set_option linter.unusedSectionVars false

namespace Go.Ab
open Go.Proofs
set_option maxRecDepth 10000
set_option linter.unusedVariables false

noncomputable def lenX (l : List Spot) : Int := if check l = 0 then total l else 0
theorem lenX_range (l : List Spot) : 0 ≤ lenX l ∧ lenX l ≤ 118632832040 := by
  unfold lenX
  split
  · rename_i h
    have hl := check_zero.1 h
    have h2 := hl.two
    exact upTo_range' hl (by omega) (by omega)
  · omega
noncomputable def edgL (p : Piece) (n m : Int) : Int := if gerr p m = 0 then lenX (ai (gradedL p m) n).line else 0
noncomputable def edgE (p : Piece) (n m : Int) : Int := if gerr p m = 0 then check (ai (gradedL p m) n).line else gerr p m
theorem edgL_range (p : Piece) (n m : Int) : 0 ≤ edgL p n m ∧ edgL p n m ≤ 118632832040 := by
  unfold edgL; split; exact lenX_range _; omega
theorem ret_edge (p : Piece) (n m : Int) (hc : p.corners.length ≤ 1000000) (hn : Idx n p.edges.length) : Ret Tryd.prog XS 31 [.agg [str p.name, .sl 2 (p.edges.map cEdge), int p.grain, .sl 2 (p.notches.map cNotch), .sl 2 (p.corners.map cSpot), .sl 1 (p.widths.map cI), boo p.match_], int n, int m] (.tup [int (edgL p n m), int (edgE p n m)]) := by
  refine seam_edge_W p n m _ _ ⟨_, _, ret_graded p m hc, fun h => ?_, fun h => ⟨by rw [edgL, if_neg h], by rw [edgE, if_neg h]⟩⟩
  rw [gres_eq h]
  exact ⟨by rw [gradedL_len]; exact hn, _, _, ret_length _, by rw [edgL, if_pos h]; rfl, by rw [edgE, if_pos h]⟩
def exs (s : Style) (piece edge : Int) : Bool := decide (0 ≤ piece) && (decide (piece < s.pieces.length) && (decide (0 ≤ edge) && decide (edge < (ai s.pieces piece).edges.length)))
theorem ret_exists (s0 : Style) (piece edge : Int) : Ret Tryd.prog XS 30 [.agg [str s0.name, .sl 1 (s0.sizes.map cS), .sl 1 (s0.multiples.map cI), .sl 7 (s0.pieces.map cPiece), .sl 3 (s0.uses.map cUseOf), .sl 6 (s0.seams.map cSeam), .sl 5 (s0.ops.map cOperation)], int piece, int edge] (boo (exs s0 piece edge)) := by
  refine seam_exists_W s0 piece edge _ ⟨fun h1 => ⟨fun h2 => ⟨fun h3 => ⟨⟨h1, h2⟩, ?_⟩, fun h3 => ?_⟩, fun h2 => ?_⟩, fun h1 => ?_⟩
  · simp [exs, show 0 ≤ piece from h1, h2, show 0 ≤ edge from h3]
  · simp [exs, show ¬ (0 ≤ edge) from h3]
  · simp [exs, h2]
  · simp [exs, show ¬ (0 ≤ piece) from h1]
theorem exs_inv {s : Style} {p e : Int} (h : exs s p e = true) : Idx p s.pieces.length ∧ Idx e (ai s.pieces p).edges.length := by
  simp only [exs, Bool.and_eq_true, decide_eq_true_eq] at h
  exact ⟨⟨h.1, h.2.1⟩, h.2.2.1, h.2.2.2⟩
def WC (s : Style) : Prop := ∀ p, p ∈ s.pieces → p.corners.length ≤ 1000000
/-- The error of seam k at the size. -/
noncomputable def lE (s : Style) (a k : Int) : Int :=
  if a < 0 ∨ a ≥ s.multiples.length ∨ k < 0 ∨ k ≥ s.seams.length then 3
  else if exs s (ai s.seams k).pieceA (ai s.seams k).edgeA = false then 3
  else if exs s (ai s.seams k).pieceB (ai s.seams k).edgeB = false then 3
  else if edgE (ai s.pieces (ai s.seams k).pieceA) (ai s.seams k).edgeA (ai s.multiples a) ≠ 0 then edgE (ai s.pieces (ai s.seams k).pieceA) (ai s.seams k).edgeA (ai s.multiples a)
  else edgE (ai s.pieces (ai s.seams k).pieceB) (ai s.seams k).edgeB (ai s.multiples a)
noncomputable def lA (s : Style) (a k : Int) : Int := if lE s a k = 0 then edgL (ai s.pieces (ai s.seams k).pieceA) (ai s.seams k).edgeA (ai s.multiples a) else 0
noncomputable def lB (s : Style) (a k : Int) : Int := if lE s a k = 0 then edgL (ai s.pieces (ai s.seams k).pieceB) (ai s.seams k).edgeB (ai s.multiples a) else 0
theorem lA_range (s : Style) (a k : Int) : 0 ≤ lA s a k ∧ lA s a k ≤ 118632832040 := by unfold lA; split; exact edgL_range _ _ _; omega
theorem lB_range (s : Style) (a k : Int) : 0 ≤ lB s a k ∧ lB s a k ≤ 118632832040 := by unfold lB; split; exact edgL_range _ _ _; omega
theorem ret_lengths (s : Style) (a k : Int) (hw : WC s) : Ret Tryd.prog XS 16 [.agg [str s.name, .sl 1 (s.sizes.map cS), .sl 1 (s.multiples.map cI), .sl 7 (s.pieces.map cPiece), .sl 3 (s.uses.map cUseOf), .sl 6 (s.seams.map cSeam), .sl 5 (s.ops.map cOperation)], int a, int k] (.tup [int (lA s a k), int (lB s a k), int (lE s a k)]) := by
  have out : ∀ e : Int, e ≠ 0 → lE s a k = e → lA s a k = 0 ∧ lB s a k = 0 ∧ lE s a k = e := fun e h he => ⟨by rw [lA, if_neg (by rw [he]; exact h)], by rw [lB, if_neg (by rw [he]; exact h)], he⟩
  refine seam_Lengths_W s a k _ _ _ ⟨fun h => out 3 (by decide) (by rw [lE, if_pos (.inl h)]), fun h1 => ⟨fun h => out 3 (by decide) (by rw [lE, if_pos (.inr (.inl h))]), fun h2 => ⟨fun h => out 3 (by decide) (by rw [lE, if_pos (.inr (.inr (.inl h)))]), fun h3 => ⟨fun h => out 3 (by decide) (by rw [lE, if_pos (.inr (.inr (.inr h)))]), fun h4 => ⟨⟨by omega, by omega⟩, ⟨by omega, by omega⟩, _, ret_exists s _ _, fun e1 => ⟨_, ret_exists s _ _, fun e2 => ?_, fun e2 => ?_⟩, fun e1 => ?_⟩⟩⟩⟩⟩
  · have hn : ¬ (a < 0 ∨ a ≥ s.multiples.length ∨ k < 0 ∨ k ≥ s.seams.length) := by omega
    obtain ⟨i1, j1⟩ := exs_inv e1
    obtain ⟨i2, j2⟩ := exs_inv e2
    have g : lE s a k = if edgE (ai s.pieces (ai s.seams k).pieceA) (ai s.seams k).edgeA (ai s.multiples a) ≠ 0 then edgE (ai s.pieces (ai s.seams k).pieceA) (ai s.seams k).edgeA (ai s.multiples a)
      else edgE (ai s.pieces (ai s.seams k).pieceB) (ai s.seams k).edgeB (ai s.multiples a) := by
      rw [lE, if_neg hn, if_neg (by rw [e1]; decide), if_neg (by rw [e2]; decide)]
    refine ⟨i1, _, _, ret_edge _ _ _ (hw _ (ai_mem i1)) j1, fun z1 => ⟨i2, _, _, ret_edge _ _ _ (hw _ (ai_mem i2)) j2, fun z2 => ?_, fun z2 => ?_⟩, fun z1 => ?_⟩
    · have z : lE s a k = 0 := by rw [g, if_neg (by rw [z1]; decide), z2]
      exact ⟨by rw [lA, if_pos z], by rw [lB, if_pos z], z⟩
    · exact out _ z2 (by rw [g, if_neg (by rw [z1]; decide)])
    · exact out _ z1 (by rw [g, if_pos z1])
  · exact out 3 (by decide) (by rw [lE, if_neg (by omega), if_neg (by rw [e1]; decide), if_pos e2])
  · exact out 3 (by decide) (by rw [lE, if_neg (by omega), if_pos e1])
/-- Seam k is longer or shorter than its ease allows. -/
noncomputable def ov (s : Style) (a : Int) (k : Nat) : Bool := decide (max (lA s a k - lB s a k) (lB s a k - lA s a k) > (ai s.seams (k : Int)).ease)
noncomputable def ovs (s : Style) (a : Int) (n : Nat) : List Int := ((List.range n).filter (ov s a)).map fun (i : Nat) => (i : Int)
theorem ovs_succ (s : Style) (a : Int) (n : Nat) : ovs s a (n + 1) = if ov s a n = true then ovs s a n ++ [(n : Int)] else ovs s a n := by
  unfold ovs
  rw [List.range_succ, List.filter_append, List.map_append]
  cases h : ov s a n <;> simp [h]
theorem ovs_len (s : Style) (a : Int) (n : Nat) : (ovs s a n).length ≤ n := by
  unfold ovs
  rw [List.length_map]
  have := List.length_filter_le (ov s a) (List.range n)
  simpa using this
noncomputable def uE (s : Style) (a : Int) : Int := if a < 0 ∨ a ≥ s.multiples.length then 3 else (((List.range s.seams.length).map fun (k : Nat) => lE s a k).find? fun e => decide (e ≠ 0)).getD 0
noncomputable def uL (s : Style) (a : Int) : List Int := if uE s a = 0 then ovs s a s.seams.length else []
theorem uE_zero {s : Style} {a : Int} : uE s a = 0 ↔ (0 ≤ a ∧ a < s.multiples.length) ∧ ∀ k : Nat, k < s.seams.length → lE s a k = 0 := by
  unfold uE
  split
  · exact ⟨fun h => absurd h (by decide), fun h => by omega⟩
  · rw [find_none]
    constructor
    · intro h
      exact ⟨by omega, fun k hk => h _ (List.mem_map.2 ⟨k, List.mem_range.2 hk, rfl⟩)⟩
    · rintro ⟨_, h⟩ x hx
      obtain ⟨k, hk, rfl⟩ := List.mem_map.1 hx
      exact h k (List.mem_range.1 hk)
theorem uE_at {s : Style} {a : Int} {k : Nat} (ha : 0 ≤ a ∧ a < s.multiples.length) (hk : k < s.seams.length) (h0 : ∀ j : Nat, j < k → lE s a j = 0) (h : lE s a k ≠ 0) : uE s a = lE s a k := by
  rw [uE, if_neg (by omega), find_at (i := k) (by simpa using hk) (fun j hj => by simpa using h0 j hj) (by simpa using h)]
  simp
theorem ret_unfit (s : Style) (a : Int) (hw : WC s) (hs : s.seams.length ≤ 1000000) : Ret Tryd.prog XS 17 [.agg [str s.name, .sl 1 (s.sizes.map cS), .sl 1 (s.multiples.map cI), .sl 7 (s.pieces.map cPiece), .sl 3 (s.uses.map cUseOf), .sl 6 (s.seams.map cSeam), .sl 5 (s.ops.map cOperation)], int a] (.tup [.fr 1 ((uL s a).map cI), int (uE s a)]) := by
  have out : ∀ e : Int, e ≠ 0 → uE s a = e → uL s a = [] ∧ uE s a = e := fun e h he => ⟨by rw [uL, if_neg (by rw [he]; exact h)], he⟩
  refine seam_Unfit_W s a _ _ (fun o v => 0 ≤ v ∧ v ≤ s.seams.length ∧ (0 ≤ a ∧ a < s.multiples.length) ∧ o = ovs s a v.toNat ∧ ∀ j : Nat, (j : Int) < v → lE s a j = 0) (fun o v => s.seams.length - v.toNat)
    ⟨fun h => out 3 (by decide) (by rw [uE, if_pos (.inl h)]), fun h1 => ⟨fun h => out 3 (by decide) (by rw [uE, if_pos (.inr h)]), fun h2 => ⟨by omega, by omega, ⟨by omega, by omega⟩, rfl, fun j hj => by omega⟩⟩⟩ ?_
  rintro o v ⟨h0, h1, ha, rfl, hj⟩
  obtain ⟨i, rfl⟩ : ∃ i : Nat, v = i := ⟨v.toNat, by omega⟩
  refine ⟨fun hlt => ⟨⟨h0, hlt⟩, _, _, _, ret_lengths s a i hw, fun z => ?_, fun z => ?_⟩, fun hge => ?_⟩
  · have r1 := lA_range s a i
    have r2 := lB_range s a i
    have hl := ovs_len s a i
    have step : ∀ j : Nat, (j : Int) < (i : Int) + 1 → lE s a j = 0 := fun j hj1 => by
      by_cases e : j = i
      · subst e; exact z
      · exact hj j (by omega)
    have e1 : ((i : Int) + 1).toNat = i + 1 := by omega
    refine ⟨⟨by omega, by omega⟩, ⟨by omega, by omega⟩, fun hov => ⟨?_, ⟨by omega, by omega⟩, ⟨by omega, by omega, ha, ?_, step⟩, by dsimp only; omega⟩, fun hov => ⟨⟨by omega, by omega⟩, ⟨by omega, by omega, ha, ?_, step⟩, by dsimp only; omega⟩⟩
    · show (ovs s a i ++ [(i : Int)]).length * 8 ≤ _
      rw [List.length_append]
      simp only [List.length_cons, List.length_nil]; omega
    · rw [e1, ovs_succ, if_pos (by simpa [ov] using hov)]; rfl
    · rw [e1, ovs_succ, if_neg (by simpa [ov] using hov)]; rfl
  · exact out _ z (uE_at ha (by omega) (fun j hj1 => hj j (by omega)) z)
  · have e : i = s.seams.length := by omega
    subst e
    have z := uE_zero.2 ⟨ha, fun k hk => hj k (by omega)⟩
    exact ⟨by rw [uL, if_pos z]; rfl, z⟩
def lightS (s : Style) : Bool := decide (s.pieces.length ≤ 14) && (decide (s.seams.length ≤ 30) && s.pieces.all fun p => light p ((80 : Nat) : Int))
theorem lightS_inv {s : Style} (h : lightS s = true) : s.pieces.length ≤ 14 ∧ s.seams.length ≤ 30 ∧ ∀ p, p ∈ s.pieces → light p ((80 : Nat) : Int) = true := by
  simp only [lightS, Bool.and_eq_true, decide_eq_true_eq, List.all_eq_true] at h
  exact h
theorem lightS_wc {s : Style} (h : lightS s = true) : WC s ∧ s.seams.length ≤ 30 := by
  obtain ⟨h1, h2, h3⟩ := lightS_inv h
  exact ⟨fun p hp => by have := light_inv (h3 p hp); omega, h2⟩
theorem ret_lightS (s : Style) : Ret Tryd.prog XS 15 [.agg [str s.name, .sl 1 (s.sizes.map cS), .sl 1 (s.multiples.map cI), .sl 7 (s.pieces.map cPiece), .sl 3 (s.uses.map cUseOf), .sl 6 (s.seams.map cSeam), .sl 5 (s.ops.map cOperation)]] (boo (lightS s)) := by
  refine garmentlaw22_light_W s _ (fun v => 0 ≤ v ∧ v ≤ s.pieces.length ∧ s.pieces.length ≤ 14 ∧ s.seams.length ≤ 30 ∧ ∀ j : Nat, (h : j < s.pieces.length) → (j : Int) < v → light s.pieces[j] ((80 : Nat) : Int) = true) (fun v => s.pieces.length - v.toNat)
    ⟨fun h => by simp [lightS, show ¬ (s.pieces.length ≤ 14) by omega], fun h1 => ⟨fun h => by simp [lightS, show ¬ (s.seams.length ≤ 30) by omega], fun h2 => ⟨by omega, by omega, by omega, by omega, fun j _ hj => by omega⟩⟩⟩ ?_
  rintro v ⟨h0, h1, l1, l2, hj⟩
  obtain ⟨i, rfl⟩ : ∃ i : Nat, v = i := ⟨v.toNat, by omega⟩
  refine ⟨fun hlt => ?_, fun hge => ?_⟩
  · have hi : i < s.pieces.length := by omega
    rw [ai_get rfl hi]
    refine ⟨⟨h0, hlt⟩, _, ret_light _ 80 (by decide), fun h => ⟨⟨by omega, by omega⟩, ⟨by omega, by omega, l1, l2, fun j hj1 hj2 => ?_⟩, by dsimp only; omega⟩, fun h => ?_⟩
    · by_cases e : j = i
      · subst e; exact h
      · exact hj j hj1 (by omega)
    · have : (s.pieces.all fun p => light p ((80 : Nat) : Int)) = false := by rw [List.all_eq_false]; exact ⟨_, List.getElem_mem hi, by simp only [h]; decide⟩
      unfold lightS
      rw [this]; simp
  · have : (s.pieces.all fun p => light p ((80 : Nat) : Int)) = true := by
      rw [List.all_eq_true]
      intro q hq
      obtain ⟨j, hj1, rfl⟩ := List.getElem_of_mem hq
      exact hj j hj1 (by omega)
    unfold lightS
    rw [this]; simp [l1, l2]
theorem law_ease (s : Style) (a : Int) : Ret Tryd.prog XS 9 [.agg [str s.name, .sl 1 (s.sizes.map cS), .sl 1 (s.multiples.map cI), .sl 7 (s.pieces.map cPiece), .sl 3 (s.uses.map cUseOf), .sl 6 (s.seams.map cSeam), .sl 5 (s.ops.map cOperation)], int a] (boo true) := by
  refine garmentlaw22_SeamEase_W s a true
    (fun u v w => WC s ∧ s.seams.length ≤ 30 ∧ uE s a = 0 ∧ u = ovs s a s.seams.length ∧ 0 ≤ w ∧ w ≤ s.seams.length ∧ v = (ovs s a w.toNat).length) (fun u v w => s.seams.length - w.toNat)
    ⟨_, ret_lightS s, fun hl => ?_, fun _ => ⟨_, ret_alive, rfl⟩⟩ ?_
  · obtain ⟨hw, h30⟩ := lightS_wc hl
    refine ⟨_, _, ret_unfit s a hw (by omega), fun z => ⟨hw, h30, z, by rw [uL, if_pos z], by omega, by omega, rfl⟩, fun z => ⟨fun _ => ⟨_, ret_alive, rfl⟩, fun h => absurd ?_ h⟩⟩
    rw [uL, if_neg z]; rfl
  · rintro u v w ⟨hw, h30, hz, rfl, h0, h1, rfl⟩
    obtain ⟨i, rfl⟩ : ∃ i : Nat, w = i := ⟨w.toNat, by omega⟩
    obtain ⟨ha, hE⟩ := uE_zero.1 hz
    rw [Int.toNat_natCast]
    have hl := ovs_len s a i
    have e1 : ((i : Int) + 1).toNat = i + 1 := by omega
    refine ⟨fun hlt => ⟨_, _, _, ret_lengths s a i hw, fun _ => ?_, fun h => absurd (hE i (by omega)) h⟩, fun hge => ?_⟩
    · have r1 := lA_range s a i
      have r2 := lB_range s a i
      refine ⟨⟨by omega, by omega⟩, ⟨by omega, by omega⟩, ⟨by omega, hlt⟩, fun hov => ?_, fun hov => ⟨⟨by omega, by omega⟩, ⟨hw, h30, hz, rfl, by omega, by omega, ?_⟩, by dsimp only; omega⟩⟩
      · have ho : ov s a i = true := by simpa [ov] using hov
        have pre : ∀ n, i + 1 ≤ n → ∃ r, ovs s a n = ovs s a i ++ (i : Int) :: r := by
          intro n hn
          induction n with
          | zero => omega
          | succ n ih =>
            by_cases e : n = i
            · subst e; exact ⟨[], by rw [ovs_succ, if_pos ho]⟩
            · obtain ⟨r, hr⟩ := ih (by omega)
              rw [ovs_succ]
              split
              · exact ⟨r ++ [(n : Int)], by rw [hr]; simp⟩
              · exact ⟨r, hr⟩
        obtain ⟨r, hr⟩ := pre s.seams.length (by omega)
        have hlen : (ovs s a s.seams.length).length = (ovs s a i).length + (r.length + 1) := by rw [hr]; simp
        refine ⟨fun h => by omega, fun _ => ⟨⟨by omega, by omega⟩, fun _ => ⟨⟨by omega, by omega⟩, ⟨by omega, by omega⟩, ⟨hw, h30, hz, rfl, by omega, by omega, ?_⟩, by dsimp only; omega⟩, fun h => absurd ?_ h⟩⟩
        · rw [e1, ovs_succ, if_pos ho]; simp
        · rw [ai_get rfl (show (ovs s a i).length < (ovs s a s.seams.length).length by omega)]
          simp only [hr]
          simp
      · rw [e1, ovs_succ, if_neg (by simpa [ov] using hov)]
    · have e : i = s.seams.length := by omega
      subst e
      exact ⟨fun _ => ⟨_, ret_alive, rfl⟩, fun h => absurd rfl h⟩
end Go.Ab
