/- Grading commutes with turning. -/
import Derived.Test.YtmdeiagmlabfmaaDoorDT5
import Derived.Test.YtmdeiagmlabfmaaDoorDG15
set_option linter.unusedVariables false
set_option linter.unusedSimpArgs false
set_option linter.unusedSectionVars false

namespace Go.Ab
open Go.Proofs
set_option maxRecDepth 10000
set_option linter.unusedVariables false

theorem along_map {φ : Spot → Spot} {σ : Int} (k : Iso φ σ) (l : List Spot) (a b : Spot) : alongL (l.map φ) (φ a) (φ b) = (alongL l a b).map φ := by
  refine List.ext_getElem (by simp [alongL_len]) fun i h1 h2 => ?_
  rw [alongL_len, List.length_map] at h1
  have e := k.add l[i] ⟨sh l.length i a.x b.x, sh l.length i a.y b.y⟩
  rw [k.shl] at e
  simp only [alongL, List.getElem_map, List.getElem_range, alongAt, List.length_map, List.getElem?_map, List.getElem?_eq_getElem h1, Option.map_some, Option.getD_some]
  exact e.symm
theorem sh_rev {n k : Nat} (h : k < n) (a b : Int) : sh n k a b = sh n (n - 1 - k) b a := by
  unfold sh
  congr 1
  rw [show ((n : Int) - 1 - ((n - 1 - k : Nat) : Int)) = k by omega, show ((n - 1 - k : Nat) : Int) = (n : Int) - 1 - k by omega]; omega
theorem along_rev (l : List Spot) (a b : Spot) : alongL l.reverse a b = (alongL l b a).reverse := by
  refine List.ext_getElem (by simp [alongL_len]) fun i h1 h2 => ?_
  rw [alongL_len, List.length_reverse] at h1
  rw [List.getElem_reverse]
  simp only [alongL, List.getElem_map, List.getElem_range, alongAt, List.length_reverse, List.length_map, List.length_range]
  rw [List.getElem?_reverse h1, sh_rev h1 a.x, sh_rev h1 a.y]
theorem turnO_at {t : Turn} {l : List Edge} {i : Nat} (hi : i < l.length) : (turnO t l)[i]'(by rw [turnO_len]; exact hi) = turnE t (cy l (if t.flip = true then l.length - i else i)) := by
  have hc : cy (turnO t l) i = (turnO t l)[i]'(by rw [turnO_len]; exact hi) := cy_lt _
  rw [← hc]
  unfold turnO
  split
  · rw [cy_rev1 (by simp; omega) (by simp; omega), List.length_map, cy_map (by omega)]
  · rw [cy_map (by omega)]
theorem cy_graded {p : Piece} {m : Int} (hc : p.corners.length = p.edges.length) (h0 : 0 < p.edges.length) (k : Nat) : cy (gradedL p m) k = ⟨(cy p.edges k).name, alongL (cy p.edges k).line (mv m (vx p.corners k)) (mv m (vx p.corners (k + 1)))⟩ := by
  have hm : k % p.edges.length < p.edges.length := Nat.mod_lt _ h0
  have e1 : cy (gradedL p m) k = cy (gradedL p m) (k % p.edges.length) := by rw [← cy_mod, gradedL_len]
  rw [e1, cy_lt (by rw [gradedL_len]; exact hm), gradedL_at hm, gE_at hm, ← cy_lt hm, cy_mod]
  rw [← hc, vx_mod, vx_add]
theorem shifted_mild {c : Spot} (h : shifted c = true) : Mild c := by
  simp only [shifted, small, Bool.and_eq_true, decide_eq_true_eq] at h
  exact ⟨⟨by omega, by omega⟩, by omega, by omega⟩
theorem cornersT_len (t : Turn) (p : Piece) : (cornersT t p).length = p.corners.length := by simp [cornersT]
theorem vx_corners {t : Turn} {p : Piece} (hc : p.corners.length = p.edges.length) (h0 : 0 < p.edges.length) (hs : p.corners.all shifted = true) {i : Nat} (hi : i ≤ p.edges.length) :
    vx (cornersT t p) i = lin t (vx p.corners (if t.flip = true then p.edges.length - i + 1 else i)) := by
  have hv : ∀ k, Mild (vx p.corners k) := fun k => shifted_mild (List.all_eq_true.1 hs _ (vx_mem (by omega) k))
  have hm : i % p.corners.length < p.corners.length := Nat.mod_lt _ (by omega)
  have e1 : vx (cornersT t p) i = cAt t p (i % p.corners.length) := by
    rw [← vx_mod, cornersT_len, vx_lt (by rw [cornersT_len]; exact hm)]; simp [cornersT]
  rw [e1, cAt]
  have e2 : (p.corners[cFrom t p (i % p.corners.length)]?).getD default = vx p.corners (if t.flip = true then p.edges.length - i + 1 else i) := by
    unfold cFrom
    split
    · rename_i hf
      rw [if_pos hf.1, ← hc]
      unfold vx
      by_cases hin : i = p.corners.length
      · subst hin; rw [Nat.mod_self, Nat.sub_self, Nat.sub_zero, Nat.zero_add, show p.corners.length + 1 = 1 + p.corners.length by omega, Nat.add_mod_right]
      · rw [Nat.mod_eq_of_lt (show i < p.corners.length by omega)]
    · rename_i hf
      rw [if_neg (fun h => hf ⟨h, hc⟩)]; rfl
  rw [e2, app_lin (hv _)]
theorem mv_lin (t : Turn) (m : Int) (c : Spot) : mv m (lin t c) = lin t (mv m c) := ((iso_lin t).mul m c).symm
theorem graded_turn {p : Piece} {m : Int} (t : Turn) (hg : gerr p m = 0) : gradedL (turnP t p) m = turnO t (gradedL p m) := by
  obtain ⟨hm, hc, hs, ho, ho2⟩ := gerr_inv hg
  have O1 := ocheck_zero.1 ho
  have O2 := ocheck_zero.1 ho2
  have h0 : 0 < p.edges.length := by have := O1.two; omega
  refine List.ext_getElem (by rw [gradedL_len, turnO_len, gradedL_len]; exact turnO_len t _) fun i h1 h2 => ?_
  rw [turnO_len, gradedL_len] at h2
  have hq : i < (turnO t p.edges).length := by rw [turnO_len]; exact h2
  rw [gradedL_at (p := turnP t p) hq, gE_at (p := turnP t p) hq, turnO_at (by rw [gradedL_len]; exact h2), gradedL_len, cy_graded hc h0]
  show (⟨((turnO t p.edges)[i]'hq).name, alongL ((turnO t p.edges)[i]'hq).line (mv m (vx (cornersT t p) i)) (mv m (vx (cornersT t p) (i + 1)))⟩ : Edge) = _
  rw [turnO_at h2, vx_corners hc h0 hs (by omega), vx_corners hc h0 hs (by omega), mv_lin, mv_lin]
  generalize hk : (if t.flip = true then p.edges.length - i else i) = k
  have gl := (O2.lines _ (cy_mem (l := gradedL p m) (by rw [gradedL_len]; exact h0) k)).grid
  rw [cy_graded hc h0] at gl
  have pl := (O1.lines _ (cy_mem h0 k)).grid
  simp only [turnE, Edge.mk.injEq, true_and]
  rw [polyT_eq pl, polyT_eq gl]
  cases hf : t.flip with
  | false =>
    simp only [hf, Bool.false_eq_true, if_false] at hk ⊢
    subst hk
    exact along_map (iso_lin t) _ _ _
  | true =>
    simp only [hf, if_true] at hk ⊢
    rw [← along_map (iso_lin t), along_rev, show p.edges.length - i + 1 = k + 1 by omega, show p.edges.length - (i + 1) + 1 = k by omega]
theorem gerr_turn {p : Piece} {m : Int} (t : Turn) (hg : gerr p m = 0) : gerr (turnP t p) m = 0 := by
  obtain ⟨hm, hc, hs, ho, ho2⟩ := gerr_inv hg
  have O1 := ocheck_zero.1 ho
  have O2 := ocheck_zero.1 ho2
  have h0 : 0 < p.edges.length := by have := O1.two; omega
  rw [gerr_to (p := turnP t p) hm (by show (cornersT t p).length = (turnO t p.edges).length; rw [cornersT_len, turnO_len, hc]) ?_ (ocheck_zero.2 (O1.turn t)), graded_turn t hg]
  · exact ocheck_zero.2 (O2.turn t)
  · show (cornersT t p).all shifted = true
    rw [List.all_eq_true]
    intro c hcm
    obtain ⟨i, hi, rfl⟩ := List.getElem_of_mem hcm
    rw [cornersT_len] at hi
    rw [← vx_lt (by rw [cornersT_len]; exact hi), vx_corners hc h0 hs (by omega)]
    exact (iso_lin t).sm _ (List.all_eq_true.1 hs _ (vx_mem (by omega) _))
theorem invT_flip (t : Turn) : (invT t).flip = t.flip := by unfold invT; split <;> simp_all
theorem polyT_back {l : List Spot} (h : ∀ p, p ∈ l → Wd p) (t : Turn) : polyT (invT t) (polyT t l) = l := by
  have e : l.map (app (invT t) ∘ app t) = l := by
    conv => rhs; rw [← List.map_id l]
    exact List.map_congr_left fun p hp => app_inv (h p hp) t
  unfold polyT
  rw [invT_flip]
  split
  · rw [List.map_reverse, List.reverse_reverse, List.map_map, e]
  · rw [List.map_map, e]
theorem rev1_map {α β : Type} (f : α → β) (l : List α) : rev1 (l.map f) = (rev1 l).map f := by cases l <;> simp [rev1]
theorem rev1_rev1 {α : Type} (l : List α) : rev1 (rev1 l) = l := by cases l <;> simp [rev1]
theorem turnO_back {l : List Edge} (h : ∀ e, e ∈ l → ∀ p, p ∈ e.line → Wd p) (t : Turn) : turnO (invT t) (turnO t l) = l := by
  have e : l.map (turnE (invT t) ∘ turnE t) = l := by
    conv => rhs; rw [← List.map_id l]
    exact List.map_congr_left fun x hx => by simp only [Function.comp, turnE, polyT_back (h x hx), id]
  unfold turnO
  rw [invT_flip]
  split
  · rw [← rev1_map, rev1_rev1, List.map_map, e]
  · rw [List.map_map, e]
theorem cFrom_back {t : Turn} {p : Piece} {j : Nat} (hj : j < p.corners.length) : cFrom t p (cFrom t p j) = j ∧ cFrom t p j < p.corners.length := by
  unfold cFrom
  by_cases hf : t.flip = true ∧ p.corners.length = p.edges.length
  · rw [if_pos hf, if_pos hf, ← hf.2]
    generalize p.corners.length = n at hj
    by_cases h0 : j = 0
    · subst h0
      by_cases h1 : n = 1
      · subst h1; decide
      · rw [show n - 0 + 1 = 1 + n by omega, Nat.add_mod_right, Nat.mod_eq_of_lt (show 1 < n by omega), show n - 1 + 1 = n by omega, Nat.mod_self]; omega
    · by_cases h1 : j = 1
      · subst h1
        rw [show n - 1 + 1 = n by omega, Nat.mod_self, show n - 0 + 1 = 1 + n by omega, Nat.add_mod_right, Nat.mod_eq_of_lt hj]; omega
      · rw [Nat.mod_eq_of_lt (show n - j + 1 < n by omega), show n - (n - j + 1) + 1 = j by omega, Nat.mod_eq_of_lt hj]; omega
  · rw [if_neg hf, if_neg hf]; exact ⟨rfl, hj⟩
theorem corners_back {p : Piece} (h : ∀ c, c ∈ p.corners → Wd c) (t : Turn) : cornersT (invT t) (turnP t p) = p.corners := by
  refine List.ext_getElem (by rw [cornersT_len]; exact cornersT_len t p) fun j h1 h2 => ?_
  have hc : (turnP t p).corners = cornersT t p := rfl
  have he : (turnP t p).edges = turnO t p.edges := rfl
  have ef : cFrom (invT t) (turnP t p) j = cFrom t p j := by simp only [cFrom, invT_flip, hc, he, cornersT_len, turnO_len]
  have hb := cFrom_back (t := t) h2
  simp only [cornersT, List.getElem_map, List.getElem_range]
  rw [cAt, ef, hc, List.getElem?_eq_getElem (by rw [cornersT_len]; exact hb.2)]
  simp only [cornersT, List.getElem_map, List.getElem_range, Option.getD_some, cAt, hb.1, List.getElem?_eq_getElem h2]
  exact app_inv (h _ (List.getElem_mem h2)) t
/-- All numbers of a piece are the machine's. -/
def WP (p : Piece) : Prop := (∀ e, e ∈ p.edges → ∀ s, s ∈ e.line → Wd s) ∧ ∀ c, c ∈ p.corners → Wd c
theorem gerr_cong {p q : Piece} {m : Int} (h1 : p.edges = q.edges) (h2 : p.corners = q.corners) : gerr p m = gerr q m := by
  unfold gerr gradedL
  have : gE p m = gE q m := by funext i; unfold gE; rw [h1, h2]
  rw [this, h1, h2]
theorem gerr_turn_iff {p : Piece} {m : Int} (hw : WP p) (t : Turn) : gerr (turnP t p) m = 0 ↔ gerr p m = 0 := by
  refine ⟨fun h => ?_, gerr_turn t⟩
  have := gerr_turn (invT t) h
  rwa [gerr_cong (q := p) (turnO_back hw.1 t) (corners_back hw.2 t)] at this
end Go.Ab
