/- Chapter 22: the lengths of a seam's sides, the seams that don't fit; the laws SeamSides and SeamEase. -/
import Derived.Test.YtjbodjmkfklleaaDoorEV4
import Derived.Test.YtjbodjmkfklleaaDoorET8
import Derived.Test.YtjbodjmkfklleaaDoorEG15
import Derived.Test.YtjbodjmkfklleaaDoorELEaseW
set_option linter.unusedVariables false
set_option linter.unusedSimpArgs false
set_option linter.unusedSectionVars false

namespace Go.Ab
open Go.Proofs
set_option maxRecDepth 10000
set_option linter.unusedVariables false

noncomputable def lenX (l : List Spot) : Int := if check l = 0 then total l else 0
theorem lenX_range (l : List Spot) : 0 ≤ lenX l ∧ lenX l ≤ 118632832040 := by
  unfold lenX
  split
  · rename_i h
    have hl := check_zero.1 h
    have h2 := hl.two
    exact upTo_range' hl (by omega) (by omega)
  · omega
noncomputable def edgL (p : Piece) (n m : Int) : Int := if gerr p m = 0 then lenX (ai (gradedL p m) n).line else 0
noncomputable def edgE (p : Piece) (n m : Int) : Int := if gerr p m = 0 then check (ai (gradedL p m) n).line else gerr p m
theorem edgL_range (p : Piece) (n m : Int) : 0 ≤ edgL p n m ∧ edgL p n m ≤ 118632832040 := by
  unfold edgL; split; exact lenX_range _; omega
theorem ret_edge (p : Piece) (n m : Int) (hc : p.corners.length ≤ 1000000) (hn : Idx n p.edges.length) : Ret Tryd.prog XS 31 [.agg [str p.name, .sl 2 (p.edges.map cEdge), int p.grain, .sl 2 (p.notches.map cNotch), .sl 2 (p.corners.map cSpot), .sl 1 (p.widths.map cI), boo p.match_], int n, int m] (.tup [int (edgL p n m), int (edgE p n m)]) := by
  refine seam_edge_W p n m _ _ ⟨_, _, ret_graded p m hc, fun h => ?_, fun h => ⟨by rw [edgL, if_neg h], by rw [edgE, if_neg h]⟩⟩
  rw [gres_eq h]
  exact ⟨by rw [gradedL_len]; exact hn, _, _, ret_length _, by rw [edgL, if_pos h]; rfl, by rw [edgE, if_pos h]⟩
def exs (s : Style) (piece edge : Int) : Bool := decide (0 ≤ piece) && (decide (piece < s.pieces.length) && (decide (0 ≤ edge) && decide (edge < (ai s.pieces piece).edges.length)))
theorem ret_exists (s0 : Style) (piece edge : Int) : Ret Tryd.prog XS 30 [.agg [str s0.name, .sl 1 (s0.sizes.map cS), .sl 1 (s0.multiples.map cI), .sl 7 (s0.pieces.map cPiece), .sl 3 (s0.uses.map cUseOf), .sl 6 (s0.seams.map cSeam), .sl 5 (s0.ops.map cOperation)], int piece, int edge] (boo (exs s0 piece edge)) := by
  refine seam_exists_W s0 piece edge _ ⟨fun h1 => ⟨fun h2 => ⟨fun h3 => ⟨⟨h1, h2⟩, ?_⟩, fun h3 => ?_⟩, fun h2 => ?_⟩, fun h1 => ?_⟩
  · simp [exs, show 0 ≤ piece from h1, h2, show 0 ≤ edge from h3]
  · simp [exs, show ¬ (0 ≤ edge) from h3]
  · simp [exs, h2]
  · simp [exs, show ¬ (0 ≤ piece) from h1]
theorem exs_inv {s : Style} {p e : Int} (h : exs s p e = true) : Idx p s.pieces.length ∧ Idx e (ai s.pieces p).edges.length := by
  simp only [exs, Bool.and_eq_true, decide_eq_true_eq] at h
  exact ⟨⟨h.1, h.2.1⟩, h.2.2.1, h.2.2.2⟩
def WC (s : Style) : Prop := ∀ p, p ∈ s.pieces → p.corners.length ≤ 1000000
/-- The error of seam k at the size. -/
noncomputable def lE (s : Style) (a k : Int) : Int :=
  if a < 0 ∨ a ≥ s.multiples.length ∨ k < 0 ∨ k ≥ s.seams.length then 3
  else if exs s (ai s.seams k).pieceA (ai s.seams k).edgeA = false then 3
  else if exs s (ai s.seams k).pieceB (ai s.seams k).edgeB = false then 3
  else if edgE (ai s.pieces (ai s.seams k).pieceA) (ai s.seams k).edgeA (ai s.multiples a) ≠ 0 then edgE (ai s.pieces (ai s.seams k).pieceA) (ai s.seams k).edgeA (ai s.multiples a)
  else edgE (ai s.pieces (ai s.seams k).pieceB) (ai s.seams k).edgeB (ai s.multiples a)
noncomputable def lA (s : Style) (a k : Int) : Int := if lE s a k = 0 then edgL (ai s.pieces (ai s.seams k).pieceA) (ai s.seams k).edgeA (ai s.multiples a) else 0
noncomputable def lB (s : Style) (a k : Int) : Int := if lE s a k = 0 then edgL (ai s.pieces (ai s.seams k).pieceB) (ai s.seams k).edgeB (ai s.multiples a) else 0
theorem lA_range (s : Style) (a k : Int) : 0 ≤ lA s a k ∧ lA s a k ≤ 118632832040 := by unfold lA; split; exact edgL_range _ _ _; omega
theorem lB_range (s : Style) (a k : Int) : 0 ≤ lB s a k ∧ lB s a k ≤ 118632832040 := by unfold lB; split; exact edgL_range _ _ _; omega
theorem ret_lengths (s : Style) (a k : Int) (hw : WC s) : Ret Tryd.prog XS 16 [.agg [str s.name, .sl 1 (s.sizes.map cS), .sl 1 (s.multiples.map cI), .sl 7 (s.pieces.map cPiece), .sl 3 (s.uses.map cUseOf), .sl 6 (s.seams.map cSeam), .sl 5 (s.ops.map cOperation)], int a, int k] (.tup [int (lA s a k), int (lB s a k), int (lE s a k)]) := by
  have out : ∀ e : Int, e ≠ 0 → lE s a k = e → lA s a k = 0 ∧ lB s a k = 0 ∧ lE s a k = e := fun e h he => ⟨by rw [lA, if_neg (by rw [he]; exact h)], by rw [lB, if_neg (by rw [he]; exact h)], he⟩
  refine seam_Lengths_W s a k _ _ _ ⟨fun h => out 3 (by decide) (by rw [lE, if_pos (.inl h)]), fun h1 => ⟨fun h => out 3 (by decide) (by rw [lE, if_pos (.inr (.inl h))]), fun h2 => ⟨fun h => out 3 (by decide) (by rw [lE, if_pos (.inr (.inr (.inl h)))]), fun h3 => ⟨fun h => out 3 (by decide) (by rw [lE, if_pos (.inr (.inr (.inr h)))]), fun h4 => ⟨⟨by omega, by omega⟩, ⟨by omega, by omega⟩, _, ret_exists s _ _, fun e1 => ⟨_, ret_exists s _ _, fun e2 => ?_, fun e2 => ?_⟩, fun e1 => ?_⟩⟩⟩⟩⟩
  · have hn : ¬ (a < 0 ∨ a ≥ s.multiples.length ∨ k < 0 ∨ k ≥ s.seams.length) := by omega
    obtain ⟨i1, j1⟩ := exs_inv e1
    obtain ⟨i2, j2⟩ := exs_inv e2
    have g : lE s a k = if edgE (ai s.pieces (ai s.seams k).pieceA) (ai s.seams k).edgeA (ai s.multiples a) ≠ 0 then edgE (ai s.pieces (ai s.seams k).pieceA) (ai s.seams k).edgeA (ai s.multiples a)
      else edgE (ai s.pieces (ai s.seams k).pieceB) (ai s.seams k).edgeB (ai s.multiples a) := by
      rw [lE, if_neg hn, if_neg (by rw [e1]; decide), if_neg (by rw [e2]; decide)]
    refine ⟨i1, _, _, ret_edge _ _ _ (hw _ (ai_mem i1)) j1, fun z1 => ⟨i2, _, _, ret_edge _ _ _ (hw _ (ai_mem i2)) j2, fun z2 => ?_, fun z2 => ?_⟩, fun z1 => ?_⟩
    · have z : lE s a k = 0 := by rw [g, if_neg (by rw [z1]; decide), z2]
      exact ⟨by rw [lA, if_pos z], by rw [lB, if_pos z], z⟩
    · exact out _ z2 (by rw [g, if_neg (by rw [z1]; decide)])
    · exact out _ z1 (by rw [g, if_pos z1])
  · exact out 3 (by decide) (by rw [lE, if_neg (by omega), if_neg (by rw [e1]; decide), if_pos e2])
  · exact out 3 (by decide) (by rw [lE, if_neg (by omega), if_pos e1])
/-- Seam k is longer or shorter than its ease allows. -/
noncomputable def ov (s : Style) (a : Int) (k : Nat) : Bool := decide (max (lA s a k - lB s a k) (lB s a k - lA s a k) > (ai s.seams (k : Int)).ease)
noncomputable def ovs (s : Style) (a : Int) (n : Nat) : List Int := ((List.range n).filter (ov s a)).map fun (i : Nat) => (i : Int)
theorem ovs_succ (s : Style) (a : Int) (n : Nat) : ovs s a (n + 1) = if ov s a n = true then ovs s a n ++ [(n : Int)] else ovs s a n := by
  unfold ovs
  rw [List.range_succ, List.filter_append, List.map_append]
  cases h : ov s a n <;> simp [h]
theorem ovs_len (s : Style) (a : Int) (n : Nat) : (ovs s a n).length ≤ n := by
  unfold ovs
  rw [List.length_map]
  have := List.length_filter_le (ov s a) (List.range n)
  simpa using this
noncomputable def uE (s : Style) (a : Int) : Int := if a < 0 ∨ a ≥ s.multiples.length then 3 else (((List.range s.seams.length).map fun (k : Nat) => lE s a k).find? fun e => decide (e ≠ 0)).getD 0
noncomputable def uL (s : Style) (a : Int) : List Int := if uE s a = 0 then ovs s a s.seams.length else []
theorem uE_zero {s : Style} {a : Int} : uE s a = 0 ↔ (0 ≤ a ∧ a < s.multiples.length) ∧ ∀ k : Nat, k < s.seams.length → lE s a k = 0 := by
  unfold uE
  split
  · exact ⟨fun h => absurd h (by decide), fun h => by omega⟩
  · rw [find_none]
    constructor
    · intro h
      exact ⟨by omega, fun k hk => h _ (List.mem_map.2 ⟨k, List.mem_range.2 hk, rfl⟩)⟩
    · rintro ⟨_, h⟩ x hx
      obtain ⟨k, hk, rfl⟩ := List.mem_map.1 hx
      exact h k (List.mem_range.1 hk)
theorem uE_at {s : Style} {a : Int} {k : Nat} (ha : 0 ≤ a ∧ a < s.multiples.length) (hk : k < s.seams.length) (h0 : ∀ j : Nat, j < k → lE s a j = 0) (h : lE s a k ≠ 0) : uE s a = lE s a k := by
  rw [uE, if_neg (by omega), find_at (i := k) (by simpa using hk) (fun j hj => by simpa using h0 j hj) (by simpa using h)]
  simp
theorem ret_unfit (s : Style) (a : Int) (hw : WC s) (hs : s.seams.length ≤ 1000000) : Ret Tryd.prog XS 17 [.agg [str s.name, .sl 1 (s.sizes.map cS), .sl 1 (s.multiples.map cI), .sl 7 (s.pieces.map cPiece), .sl 3 (s.uses.map cUseOf), .sl 6 (s.seams.map cSeam), .sl 5 (s.ops.map cOperation)], int a] (.tup [.fr 1 ((uL s a).map cI), int (uE s a)]) := by
  have out : ∀ e : Int, e ≠ 0 → uE s a = e → uL s a = [] ∧ uE s a = e := fun e h he => ⟨by rw [uL, if_neg (by rw [he]; exact h)], he⟩
  refine seam_Unfit_W s a _ _ (fun o v => 0 ≤ v ∧ v ≤ s.seams.length ∧ (0 ≤ a ∧ a < s.multiples.length) ∧ o = ovs s a v.toNat ∧ ∀ j : Nat, (j : Int) < v → lE s a j = 0) (fun o v => s.seams.length - v.toNat)
    ⟨fun h => out 3 (by decide) (by rw [uE, if_pos (.inl h)]), fun h1 => ⟨fun h => out 3 (by decide) (by rw [uE, if_pos (.inr h)]), fun h2 => ⟨by omega, by omega, ⟨by omega, by omega⟩, rfl, fun j hj => by omega⟩⟩⟩ ?_
  rintro o v ⟨h0, h1, ha, rfl, hj⟩
  obtain ⟨i, rfl⟩ : ∃ i : Nat, v = i := ⟨v.toNat, by omega⟩
  refine ⟨fun hlt => ⟨⟨h0, hlt⟩, _, _, _, ret_lengths s a i hw, fun z => ?_, fun z => ?_⟩, fun hge => ?_⟩
  · have r1 := lA_range s a i
    have r2 := lB_range s a i
    have hl := ovs_len s a i
    have step : ∀ j : Nat, (j : Int) < (i : Int) + 1 → lE s a j = 0 := fun j hj1 => by
      by_cases e : j = i
      · subst e; exact z
      · exact hj j (by omega)
    have e1 : ((i : Int) + 1).toNat = i + 1 := by omega
    refine ⟨⟨by omega, by omega⟩, ⟨by omega, by omega⟩, fun hov => ⟨?_, ⟨by omega, by omega⟩, ⟨by omega, by omega, ha, ?_, step⟩, by dsimp only; omega⟩, fun hov => ⟨⟨by omega, by omega⟩, ⟨by omega, by omega, ha, ?_, step⟩, by dsimp only; omega⟩⟩
    · show (ovs s a i ++ [(i : Int)]).length * 8 ≤ _
      rw [List.length_append]
      simp only [List.length_cons, List.length_nil]; omega
    · rw [e1, ovs_succ, if_pos (by simpa [ov] using hov)]; rfl
    · rw [e1, ovs_succ, if_neg (by simpa [ov] using hov)]; rfl
  · exact out _ z (uE_at ha (by omega) (fun j hj1 => hj j (by omega)) z)
  · have e : i = s.seams.length := by omega
    subst e
    have z := uE_zero.2 ⟨ha, fun k hk => hj k (by omega)⟩
    exact ⟨by rw [uL, if_pos z]; rfl, z⟩
def lightS (s : Style) : Bool := decide (s.pieces.length ≤ 14) && (decide (s.seams.length ≤ 30) && s.pieces.all fun p => light p ((80 : Nat) : Int))
theorem lightS_inv {s : Style} (h : lightS s = true) : s.pieces.length ≤ 14 ∧ s.seams.length ≤ 30 ∧ ∀ p, p ∈ s.pieces → light p ((80 : Nat) : Int) = true := by
  simp only [lightS, Bool.and_eq_true, decide_eq_true_eq, List.all_eq_true] at h
  exact h
theorem lightS_wc {s : Style} (h : lightS s = true) : WC s ∧ s.seams.length ≤ 30 := by
  obtain ⟨h1, h2, h3⟩ := lightS_inv h
  exact ⟨fun p hp => by have := light_inv (h3 p hp); omega, h2⟩
theorem ret_lightS (s : Style) : Ret Tryd.prog XS 15 [.agg [str s.name, .sl 1 (s.sizes.map cS), .sl 1 (s.multiples.map cI), .sl 7 (s.pieces.map cPiece), .sl 3 (s.uses.map cUseOf), .sl 6 (s.seams.map cSeam), .sl 5 (s.ops.map cOperation)]] (boo (lightS s)) := by
  refine garmentlaw22_light_W s _ (fun v => 0 ≤ v ∧ v ≤ s.pieces.length ∧ s.pieces.length ≤ 14 ∧ s.seams.length ≤ 30 ∧ ∀ j : Nat, (h : j < s.pieces.length) → (j : Int) < v → light s.pieces[j] ((80 : Nat) : Int) = true) (fun v => s.pieces.length - v.toNat)
    ⟨fun h => by simp [lightS, show ¬ (s.pieces.length ≤ 14) by omega], fun h1 => ⟨fun h => by simp [lightS, show ¬ (s.seams.length ≤ 30) by omega], fun h2 => ⟨by omega, by omega, by omega, by omega, fun j _ hj => by omega⟩⟩⟩ ?_
  rintro v ⟨h0, h1, l1, l2, hj⟩
  obtain ⟨i, rfl⟩ : ∃ i : Nat, v = i := ⟨v.toNat, by omega⟩
  refine ⟨fun hlt => ?_, fun hge => ?_⟩
  · have hi : i < s.pieces.length := by omega
    rw [ai_get rfl hi]
    refine ⟨⟨h0, hlt⟩, _, ret_light _ 80 (by decide), fun h => ⟨⟨by omega, by omega⟩, ⟨by omega, by omega, l1, l2, fun j hj1 hj2 => ?_⟩, by dsimp only; omega⟩, fun h => ?_⟩
    · by_cases e : j = i
      · subst e; exact h
      · exact hj j hj1 (by omega)
    · have : (s.pieces.all fun p => light p ((80 : Nat) : Int)) = false := by rw [List.all_eq_false]; exact ⟨_, List.getElem_mem hi, by simp only [h]; decide⟩
      unfold lightS
      rw [this]; simp
  · have : (s.pieces.all fun p => light p ((80 : Nat) : Int)) = true := by
      rw [List.all_eq_true]
      intro q hq
      obtain ⟨j, hj1, rfl⟩ := List.getElem_of_mem hq
      exact hj j hj1 (by omega)
    unfold lightS
    rw [this]; simp [l1, l2]
def swS (x : Seam) : Seam := ⟨x.pieceB, x.edgeB, x.pieceA, x.edgeA, x.reverse, x.ease⟩
def swp (s : Style) (k : Int) : Style := { s with seams := s.seams.set k.toNat (swS (ai s.seams k)) }
theorem swp_len (s : Style) (k : Int) : (swp s k).seams.length = s.seams.length := by simp [swp]
theorem swp_at {s : Style} {k : Nat} {j : Nat} (hj : j < s.seams.length) : ai (swp s (k : Int)).seams (j : Int) = if j = k then swS (ai s.seams (k : Int)) else ai s.seams (j : Int) := by
  rw [ai_nat (show j < (swp s (k : Int)).seams.length by rw [swp_len]; exact hj), ai_nat hj]
  simp only [swp, Int.toNat_natCast, List.getElem_set]
  by_cases e : j = k
  · subst e; simp
  · rw [if_neg e, if_neg (fun h => e h.symm)]
theorem lE_other {s : Style} {a : Int} {k j : Nat} (hj : j < s.seams.length) (h : j ≠ k) : lE (swp s (k : Int)) a j = lE s a j ∧ lA (swp s (k : Int)) a j = lA s a j ∧ lB (swp s (k : Int)) a j = lB s a j := by
  have e := swp_at (k := k) hj
  rw [if_neg h] at e
  have z : lE (swp s (k : Int)) a j = lE s a j := by unfold lE; rw [e, swp_len]; rfl
  exact ⟨z, by unfold lA; rw [z, e]; rfl, by unfold lB; rw [z, e]; rfl⟩
theorem lE_parts {s : Style} {a k : Int} : lE s a k = 0 ↔ (0 ≤ a ∧ a < s.multiples.length ∧ 0 ≤ k ∧ k < s.seams.length) ∧ exs s (ai s.seams k).pieceA (ai s.seams k).edgeA = true ∧ exs s (ai s.seams k).pieceB (ai s.seams k).edgeB = true ∧ edgE (ai s.pieces (ai s.seams k).pieceA) (ai s.seams k).edgeA (ai s.multiples a) = 0 ∧ edgE (ai s.pieces (ai s.seams k).pieceB) (ai s.seams k).edgeB (ai s.multiples a) = 0 := by
  unfold lE
  split
  · exact ⟨fun h => absurd h (by decide), fun h => by omega⟩
  · split
    · rename_i h; exact ⟨fun h => absurd h (by decide), fun h' => by rw [h] at h'; exact absurd h'.2.1 (by decide)⟩
    · split
      · rename_i h; exact ⟨fun h => absurd h (by decide), fun h' => by rw [h] at h'; exact absurd h'.2.2.1 (by decide)⟩
      · rename_i h1 h2 h3
        split
        · rename_i h; exact ⟨fun h' => absurd h' h, fun h' => absurd h'.2.2.2.1 h⟩
        · rename_i h
          exact ⟨fun z => ⟨by omega, by simpa using h2, by simpa using h3, by simpa using h, z⟩, fun z => z.2.2.2.2⟩
theorem lE_self {s : Style} {a : Int} {k : Nat} (hk : k < s.seams.length) (h : lE s a k = 0) : lE (swp s (k : Int)) a k = 0 ∧ lA (swp s (k : Int)) a k = lB s a k ∧ lB (swp s (k : Int)) a k = lA s a k := by
  have e := swp_at (k := k) hk
  rw [if_pos rfl] at e
  obtain ⟨h1, h2, h3, h4, h5⟩ := lE_parts.1 h
  have z : lE (swp s (k : Int)) a k = 0 := by
    rw [lE_parts, e, swp_len]
    exact ⟨h1, h3, h2, h5, h4⟩
  exact ⟨z, by rw [lA, lB, if_pos z, if_pos h, e]; rfl, by rw [lA, lB, if_pos z, if_pos h, e]; rfl⟩
theorem uL_swp {s : Style} {a : Int} {k : Nat} (hk : k < s.seams.length) (h : uE s a = 0) : uE (swp s (k : Int)) a = 0 ∧ uL (swp s (k : Int)) a = uL s a := by
  obtain ⟨ha, hE⟩ := uE_zero.1 h
  have z : uE (swp s (k : Int)) a = 0 := by
    refine uE_zero.2 ⟨ha, fun j hj => ?_⟩
    rw [swp_len] at hj
    by_cases e : j = k
    · subst e; exact (lE_self hj (hE j hj)).1
    · rw [(lE_other hj e).1]; exact hE j hj
  refine ⟨z, ?_⟩
  rw [uL, uL, if_pos z, if_pos h, swp_len]
  unfold ovs
  congr 1
  refine List.filter_congr fun j hj => ?_
  have hj := List.mem_range.1 hj
  by_cases e : j = k
  · subst e
    obtain ⟨_, e1, e2⟩ := lE_self hj (hE j hj)
    have e3 := swp_at (k := j) hj
    rw [if_pos rfl] at e3
    unfold ov
    rw [e1, e2, e3, Int.max_comm]; rfl
  · obtain ⟨_, e1, e2⟩ := lE_other (a := a) hj e
    have e3 := swp_at (k := k) hj
    rw [if_neg e] at e3
    unfold ov
    rw [e1, e2, e3]
theorem law_sides (s : Style) (a k : Int) : Ret Tryd.prog XS 6 [.agg [str s.name, .sl 1 (s.sizes.map cS), .sl 1 (s.multiples.map cI), .sl 7 (s.pieces.map cPiece), .sl 3 (s.uses.map cUseOf), .sl 6 (s.seams.map cSeam), .sl 5 (s.ops.map cOperation)], int a, int k] (boo true) := by
  refine garmentlaw22_SeamSides_W s a k true ⟨_, ret_lightS s, fun hl => ?_, fun _ => ⟨_, ret_alive, rfl⟩⟩
  obtain ⟨hw, h30⟩ := lightS_wc hl
  refine ⟨_, _, _, ret_lengths s a k hw, fun z => ?_, fun z => ?_⟩
  · have hp := (lE_parts.1 z).1
    obtain ⟨i, rfl⟩ : ∃ i : Nat, k = i := ⟨k.toNat, by omega⟩
    have hi : i < s.seams.length := by omega
    obtain ⟨z2, e1, e2⟩ := lE_self hi z
    have hw2 : WC (swp s (i : Int)) := hw
    refine ⟨fun h => by omega, fun _ => ⟨fun h => by omega, fun _ => ⟨?_, ⟨by omega, by omega⟩, ⟨by omega, by simpa using hi⟩, _, _, _, ret_lengths (swp s (i : Int)) a i hw2, _, _, ret_unfit s a hw (by omega), _, _, ret_unfit (swp s (i : Int)) a hw2 (by rw [swp_len]; omega), fun _ => ⟨fun _ => ⟨fun _ => ⟨fun u => ⟨fun u2 => ⟨_, ret_ints _ _ ?_, fun _ => ⟨_, ret_alive, rfl⟩, fun h => ?_⟩, fun u2 => absurd (uL_swp hi u).1 u2⟩, fun _ => ⟨_, ret_alive, rfl⟩⟩, fun h => absurd e1.symm h⟩, fun h => absurd e2.symm h⟩, fun h => absurd z2 h⟩⟩⟩
    · show s.seams.length * 48 ≤ _
      omega
    · rw [uL, if_pos u]
      have := ovs_len s a s.seams.length
      omega
    · rw [(uL_swp hi u).2] at h
      simp at h
  · exact ⟨fun _ => ⟨fun _ => ⟨_, ret_alive, rfl⟩, fun h => absurd (show lB s a k = 0 by rw [lB, if_neg z]) h⟩, fun h => absurd (show lA s a k = 0 by rw [lA, if_neg z]) h⟩
end Go.Ab
