/- A part of the proof. Conditions: those of each theorem. -/
import Derived.Test.YtchibfkcphbmjaaPS7
import Derived.Test.YtchibfkcphbmjaaLVerticesW
set_option linter.unusedVariables false
set_option linter.unusedSimpArgs false
set_option linter.unusedSectionVars false

namespace Go.Ab
open Go.Proofs
set_option maxRecDepth 10000
set_option linter.unusedVariables false

theorem line_cut {l : List Spot} (h : Line l) {a b : Int} (hs : Slc a b l.length) (h2 : 2 ≤ b - a) : Line (cut l a b) := by
  have := cut_length hs
  have h40 := h.forty
  obtain ⟨g0, g1, g2⟩ := hs
  exact ⟨by omega, by omega, grid_cut h.grid, adj_cut h.step ⟨g0, g1, g2⟩⟩
theorem total_cut {l : List Spot} {a b : Int} (hs : Slc a b l.length) (h2 : 1 ≤ b - a) : total (cut l a b) = upTo l (b - 1) - upTo l a := by
  have hc := cut_length hs
  have h0 := hs.1
  unfold total
  rw [upTo_cut hs (by omega) (by omega), hc]
  congr 2; omega
theorem cut_snoc {l : List Spot} {k : Int} (h : Idx k l.length) : cut l 0 (k + 1) = cut l 0 k ++ [ai l k] := by
  simp only [cut]
  rw [take_snoc h]; rfl
theorem len_is {l : List Spot} (h : Line l) : Ret Try.prog XS 15 [.sl 2 (l.map cSpot)] (.tup [int (total l), int 0]) := by
  have := ret_length l
  rw [check_zero.2 h, if_pos rfl] at this
  exact this
theorem along_is {l : List Spot} (h : Line l) {s : Int} (h0 : 0 ≤ s) (h1 : s ≤ total l) : Ret Try.prog XS 10 [.sl 2 (l.map cSpot), int s] (.tup [.agg [int (pt l s).x, int (pt l s).y], int 0]) := by
  have := ret_along l s
  rw [along_in h h0 h1] at this
  exact this
theorem cut_is {l : List Spot} (h : Line l) {s : Int} (h0 : 0 ≤ s) (h1 : s ≤ total l) : Ret Try.prog XS 12 [.sl 2 (l.map cSpot), int s] (.tup [.fr 2 ((cutA l s).map cSpot), .fr 2 ((cutB l s).map cSpot), int 0]) := by
  have := ret_cut l s
  rw [cuts_in h h0 h1] at this
  exact this
theorem idx_vertex {l : List Spot} (h : Line l) {k : Int} (h1 : 1 ≤ k) (h2 : k < l.length) : idx l (upTo l k) = k :=
  (idx_is h.two _).unique ⟨h1, h2, .inl (Int.le_refl _), fun j j0 j1 => upTo_lt h (by omega) j1 h2⟩
theorem pt_vertex {l : List Spot} (h : Line l) {k : Int} (h1 : 1 ≤ k) (h2 : k < l.length) : pt l (upTo l k) = ai l k := by
  have st := upTo_step l h1
  have g1 := h.at (i := k - 1) ⟨by omega, by omega⟩
  have g2 := h.at (i := k) ⟨by omega, by omega⟩
  have sp := seg_pos g1 g2 fun e => h.step ⟨k, h1, h2, e⟩
  rw [pt_any h h1 h2 (by omega) (Int.le_refl _), show upTo l k - upTo l (k - 1) = seg (ai l (k - 1)) (ai l k) by omega, onSeg_full (by omega)]
theorem law_vertices (l : List Spot) (a : Int) (ha : InU8 a) : Ret Try.prog XS 6 [.sl 2 (l.map cSpot), .sc (.int .u8 a)] (boo true) := by
  refine garmentlaw10_PolylineVertices_W l a _ ⟨fun _ => ⟨_, ret_alive, rfl⟩, fun _ => ⟨_, ret_check l, fun hc => ⟨fun _ => ⟨_, ret_alive, rfl⟩, fun h3 => ?_⟩, fun _ => ⟨_, ret_alive, rfl⟩⟩⟩
  have hl := check_zero.1 hc
  have h40 := hl.forty
  have kr : 0 ≤ a.tmod ((l.length : Int) - 2) ∧ a.tmod ((l.length : Int) - 2) ≤ l.length - 3 := by
    have := tmod_range ha.1 (n := (l.length : Int) - 3) (by omega)
    rwa [show (l.length : Int) - 3 + 1 = l.length - 2 by omega] at this
  refine ⟨⟨by have := ha.1; omega, by have := ha.2; omega⟩, ⟨by omega, by omega⟩, by omega, ?_⟩
  generalize hk : 1 + a.tmod ((l.length : Int) - 2) = k
  have k1 : 1 ≤ k := by omega
  have k2 : k ≤ l.length - 2 := by omega
  have s1 : Slc 0 (k + 1) l.length := ⟨by omega, by omega, by omega⟩
  have s2 : Slc k l.length l.length := ⟨by omega, by omega, by omega⟩
  have L1 := line_cut hl s1 (by omega)
  have L2 := line_cut hl s2 (by omega)
  have t1 := total_cut s1 (by omega)
  have t2 := total_cut s2 (by omega)
  rw [upTo_zero, show k + 1 - 1 = k by omega] at t1
  have u := upTo_range' hl (i := k) (by omega) (by omega)
  have m := upTo_mono hl (i := k) (j := (l.length : Int) - 1) (by omega) (by omega) (by omega)
  have tr := total_range hl
  have tt : total l = upTo l ((l.length : Int) - 1) := rfl
  have e1 : total (cut l 0 (k + 1)) = upTo l k := by omega
  have A : cutA l (upTo l k) = cut l 0 (k + 1) := by
    unfold cutA
    rw [idx_vertex hl k1 (by omega), pt_vertex hl k1 (by omega), ← cut_snoc ⟨by omega, by omega⟩, dd_same L1.step, fx_two L1.two]
  have B : cutB l (upTo l k) = cut l k l.length := by
    unfold cutB
    rw [idx_vertex hl k1 (by omega), pt_vertex hl k1 (by omega), dd_cons_eq (by have := L2.two; omega) (by rw [ai_cut s2 (by omega) (by omega), show k + 0 = k by omega]), dd_same L2.step, fx_two L2.two]
  have c1 := cut_len (l := l) (a := 0) (b := k + 1)
  have c2 := cut_len (l := l) (a := k) (b := l.length)
  have al := along_is hl (s := upTo l k) (by omega) (by omega)
  have cu := cut_is hl (s := upTo l k) (by omega) (by omega)
  rw [pt_vertex hl k1 (by omega)] at al
  rw [A, B] at cu
  have l1 := len_is L1
  rw [e1] at l1
  exact ⟨⟨by omega, by omega⟩, _, _, len_is hl, ⟨by omega, by omega⟩, s1, _, _, l1, s2, _, _, len_is L2, _, _, al, _, _, _, cu, fun _ => ⟨fun _ => ⟨fun _ => ⟨fun _ => ⟨⟨by omega, by omega⟩, fun _ => ⟨⟨by omega, by omega⟩, fun _ => ⟨_, ret_same _ _ (by omega), fun _ => ⟨_, ret_same _ _ (by omega), fun _ => ⟨_, ret_alive, rfl⟩, fun h => by simp at h⟩, fun h => by simp at h⟩, fun h => absurd rfl h⟩, fun h => absurd (by omega) h⟩, fun h => absurd rfl h⟩, fun h => absurd rfl h⟩, fun h => absurd rfl h⟩, fun h => absurd rfl h⟩
end Go.Ab
