/- Grading commutes with turning. -/
import Derived.Test.YtmdeiagmlabfmaaGreatDoorZT5
import Derived.Test.YtmdeiagmlabfmaaGreatDoorZG15
set_option linter.unusedVariables false
set_option linter.unusedSimpArgs false
set_option linter.unusedSectionVars false

section
namespace Go.Ab
open Go.Proofs
set_option maxRecDepth 10000
set_option linter.unusedVariables false

def sumN (f : Nat → Int) : Nat → Int
  | 0 => 0
  | n + 1 => sumN f n + f n
theorem sumN_box {f : Nat → Int} {B : Int} : ∀ {n : Nat}, (∀ i, i < n → -B ≤ f i ∧ f i ≤ B) → -(B * n) ≤ sumN f n ∧ sumN f n ≤ B * n
  | 0, _ => by simp [sumN]
  | n + 1, h => by
    have a := sumN_box (n := n) fun i hi => h i (by omega)
    have b := h n (by omega)
    rw [sumN, Int.natCast_succ, Int.mul_add, Int.mul_one]; omega
def crAt (p : List Spot) (i : Nat) : Int := cr (vx p i) (vx p (i + 1))
/-- Twice the area. -/
def areaL (p : List Spot) : Int := sumN (crAt p) p.length
theorem vx_per (p : List Spot) (i : Nat) : vx p (i + p.length) = vx p i := by simp [vx]
/-- A term of the program's sum. -/
def trap (p : List Spot) (i : Nat) : Int := ((vx p (i + 1)).x - (vx p i).x) * ((vx p i).y + (vx p (i + 1)).y)
theorem trap_sum (p : List Spot) : ∀ n, sumN (trap p) n = -sumN (crAt p) n + ((vx p n).x * (vx p n).y - (vx p 0).x * (vx p 0).y)
  | 0 => by simp [sumN]
  | n + 1 => by
    rw [sumN, trap_sum p n, sumN]
    simp only [trap, crAt, cr, Int.sub_mul, Int.mul_add]
    have := Int.mul_comm (vx p (n + 1)).x (vx p n).y
    omega
theorem trap_area (p : List Spot) : -sumN (trap p) p.length = areaL p := by
  have : vx p p.length = vx p 0 := by have := vx_per p 0; rwa [Nat.zero_add] at this
  rw [trap_sum, this, areaL]; omega
theorem trap_box {p : List Spot} (hg : ∀ q, q ∈ p → G q) (h : 0 < p.length) (i : Nat) : -4398046511104 ≤ trap p i ∧ trap p i ≤ 4398046511104 := by
  obtain ⟨⟨a1, a2⟩, a3, a4⟩ := hg _ (vx_mem h i)
  obtain ⟨⟨b1, b2⟩, b3, b4⟩ := hg _ (vx_mem h (i + 1))
  exact mul_box (K := 2097152) (L := 2097152) (by omega) (by omega) (by omega) (by omega)
theorem ret_area {p : List Spot} (hg : ∀ q, q ∈ p → G q) (h40 : p.length ≤ 40) : Ret Tryz.prog XS 41 [.sl 2 (p.map cSpot)] (int (areaL p)) := by
  have bx : ∀ n : Nat, n ≤ p.length → -175921860444160 ≤ sumN (trap p) n ∧ sumN (trap p) n ≤ 175921860444160 := fun n hn => by
    by_cases h0 : n = 0
    · subst h0; simp [sumN]
    · have := sumN_box (n := n) fun i _ => trap_box hg (show 0 < p.length by omega) i
      omega
  refine polygon_area_W p (areaL p) (fun l s v => l = sidesL p ∧ 0 ≤ v ∧ v ≤ p.length ∧ s = sumN (trap p) v.toNat) (fun l s v => p.length - v.toNat) ⟨_, ret_sides p (by omega), rfl, by omega, by omega, rfl⟩ ?_
  rintro l s v ⟨rfl, h0, h1, rfl⟩
  obtain ⟨i, rfl⟩ : ∃ i : Nat, v = i := ⟨v.toNat, by omega⟩
  refine ⟨fun hlt => ?_, fun hge => ?_⟩
  · rw [sidesL_len] at hlt
    have hi : i < p.length := by omega
    rw [ai_side rfl hi]
    have b1 := trap_box hg (show 0 < p.length by omega) i
    have b2 := bx i (by omega)
    have b3 := bx (i + 1) (by omega)
    obtain ⟨⟨a1, a2⟩, a3, a4⟩ := hg _ (vx_mem (show 0 < p.length by omega) i)
    obtain ⟨⟨c1, c2⟩, c3, c4⟩ := hg _ (vx_mem (show 0 < p.length by omega) (i + 1))
    have e : sumN (trap p) (i : Int).toNat + trap p i = sumN (trap p) ((i : Int) + 1).toNat := by rw [show ((i : Int) + 1).toNat = i + 1 by omega, show (i : Int).toNat = i from rfl, sumN]
    refine ⟨⟨h0, by rw [sidesL_len]; exact hlt⟩, ⟨by simp only [sideAt]; omega, by simp only [sideAt]; omega⟩, ⟨by simp only [sideAt]; omega, by simp only [sideAt]; omega⟩, ?_, ?_, ⟨by omega, by omega⟩, ⟨rfl, by omega, by omega, e⟩, by dsimp only; omega⟩
    · show InR (trap p i); exact ⟨by omega, by omega⟩
    · show InR (sumN (trap p) (i : Int).toNat + trap p i); rw [e, show ((i : Int) + 1).toNat = i + 1 by omega]; exact ⟨by omega, by omega⟩
  · rw [sidesL_len] at hge
    rw [show (i : Int).toNat = p.length by omega]
    have := bx p.length (by omega)
    exact ⟨⟨by omega, by omega⟩, (trap_area p).symm⟩
theorem ret_area2 {p : List Spot} (h : Poly p) : Ret Tryz.prog XS 25 [.sl 2 (p.map cSpot)] (int (areaL p)) :=
  polygon_Area2_W p _ ⟨_, ret_pcheck p, fun _ => ⟨_, ret_area h.grid h.forty, rfl⟩, fun hn => absurd (pcheck_zero.2 h) hn⟩
theorem area_range {p : List Spot} (h : Poly p) : -175921860444160 ≤ areaL p ∧ areaL p ≤ 175921860444160 := by
  have h3 := h.three
  have h40 := h.forty
  have := sumN_box (n := p.length) fun i _ => trap_box h.grid (show 0 < p.length by omega) i
  rw [← trap_area]; omega
theorem ret_polygon {l : List Edge} (h : Outl l) : Ret Tryz.prog XS 24 [.sl 2 (l.map cEdge)] (.tup [.fr 2 ((vertsL l).map cSpot), int 0]) := by
  have := h.sixteen
  exact outline_Polygon_W l _ _ ⟨_, ret_ocheck l, fun _ => ⟨_, ret_vertices l (fun e he => ⟨by have := (h.lines e he).two; omega, (h.lines e he).forty⟩) (by omega), rfl, rfl⟩, fun hn => absurd (ocheck_zero.2 h) hn⟩
noncomputable def aOf (p : Piece) (m : Int) : Int := max (areaL (vertsL (gradedL p m))) (-areaL (vertsL (gradedL p m)))
noncomputable def aErr (p : Piece) (ms : List Int) : Int := ((ms.map (gerr p)).find? fun e => decide (e ≠ 0)).getD 0
noncomputable def aRes (p : Piece) (ms : List Int) : List Int := if aErr p ms = 0 then ms.map (aOf p) else []
theorem find_at {l : List Int} {i : Nat} (hi : i < l.length) (h0 : ∀ j, (hj : j < i) → l[j] = 0) (h : l[i] ≠ 0) : (l.find? fun e => decide (e ≠ 0)).getD 0 = l[i] := by
  have : l.find? (fun e => decide (e ≠ 0)) = some l[i] := by
    rw [List.find?_eq_some_iff_getElem]
    exact ⟨by simpa using h, i, hi, rfl, fun j hj => by simp [h0 j hj]⟩
  rw [this]; rfl
theorem find_none {l : List Int} : (l.find? fun e => decide (e ≠ 0)).getD 0 = 0 ↔ ∀ x, x ∈ l → x = 0 := by
  constructor
  · intro h x hx
    apply Classical.byContradiction
    intro hne
    cases hf : l.find? (fun e => decide (e ≠ 0)) with
    | none => rw [List.find?_eq_none] at hf; exact hf x hx (by simpa using hne)
    | some y => have := List.find?_some hf; rw [hf] at h; simp at this h; exact this h
  · intro h
    have : l.find? (fun e => decide (e ≠ 0)) = none := by rw [List.find?_eq_none]; intro x hx; simp [h x hx]
    rw [this]; rfl
theorem aErr_zero {p : Piece} {ms : List Int} : aErr p ms = 0 ↔ ∀ m, m ∈ ms → gerr p m = 0 := by
  unfold aErr
  rw [find_none]
  exact ⟨fun h m hm => h _ (List.mem_map.2 ⟨m, hm, rfl⟩), fun h x hx => by obtain ⟨m, hm, rfl⟩ := List.mem_map.1 hx; exact h m hm⟩
theorem ret_areas (p : Piece) (ms : List Int) (hc : p.corners.length ≤ 1000000) (hn : ms.length ≤ 1000000) : Ret Tryz.prog XS 10 [.agg [str p.name, .sl 2 (p.edges.map cEdge), int p.grain, .sl 2 (p.notches.map cNotch), .sl 2 (p.corners.map cSpot), .sl 1 (p.widths.map cI), boo p.match_], .sl 1 (ms.map cI)] (.tup [.fr 1 ((aRes p ms).map cI), int (aErr p ms)]) := by
  refine grade_Areas_W p ms (aRes p ms) (aErr p ms) (fun o v => 0 ≤ v ∧ v ≤ ms.length ∧ o = (ms.take v.toNat).map (aOf p) ∧ ∀ j : Nat, (h : j < ms.length) → (j : Int) < v → gerr p ms[j] = 0) (fun o v => ms.length - v.toNat) ⟨by omega, by omega, by simp, fun j _ hj => by omega⟩ ?_
  rintro o v ⟨h0, h1, rfl, hj⟩
  obtain ⟨i, rfl⟩ : ∃ i : Nat, v = i := ⟨v.toNat, by omega⟩
  refine ⟨fun hlt => ?_, fun hge => ?_⟩
  · have hi : i < ms.length := by omega
    rw [ai_get rfl hi]
    refine ⟨⟨h0, hlt⟩, _, _, ret_graded p _ hc, fun hz => ?_, fun hz => ?_⟩
    · rw [gres_eq hz]
      have O := ocheck_zero.1 (gerr_inv hz).2.2.2.2
      have ar := area_range O.poly
      have e : (ms.take (i : Int).toNat).map (aOf p) ++ [max (areaL (vertsL (gradedL p ms[i]))) (-areaL (vertsL (gradedL p ms[i])))] = (ms.take ((i : Int) + 1).toNat).map (aOf p) := by
        rw [show ((i : Int) + 1).toNat = i + 1 by omega, show (i : Int).toNat = i from rfl, List.take_add_one, List.map_append]
        simp [hi, aOf]
      refine ⟨_, _, ret_polygon O, fun _ => ⟨_, ret_area2 O.poly, ⟨by omega, by omega⟩, ?_, ⟨by omega, by omega⟩, ⟨by omega, by omega, e, fun j hjl hjv => ?_⟩, by dsimp only; omega⟩, fun hn => absurd rfl hn⟩
      · rw [e]; simp only [Cap, List.length_map, List.length_take]; omega
      · by_cases hji : j = i
        · subst hji; exact hz
        · exact hj j hjl (by omega)
    · have e : aErr p ms = gerr p ms[i] := by
        unfold aErr
        rw [find_at (i := i) (by simpa using hi) (fun j hji => by simpa using hj j (by omega) (by omega)) (by simpa using hz)]
        simp
      exact ⟨by rw [aRes, if_neg (by rw [e]; exact hz)], e⟩
  · have e : aErr p ms = 0 := aErr_zero.2 fun m hm => by
      obtain ⟨j, hjl, rfl⟩ := List.getElem_of_mem hm
      exact hj j hjl (by omega)
    exact ⟨by rw [aRes, if_pos e, show (i : Int).toNat = ms.length by omega, List.take_length], e⟩
theorem ret_ints (a b : List Int) (hn : a.length ≤ 1000000) : Ret Tryz.prog XS 12 [.sl 1 (a.map cI), .sl 1 (b.map cI)] (boo (decide (a = b))) := by
  refine garmentref21_SameInts_W a b _ (fun v => 0 ≤ v ∧ v ≤ a.length ∧ a.length = b.length ∧ ∀ j : Nat, (j : Int) < v → ai a (j : Int) = ai b (j : Int)) (fun v => a.length - v.toNat)
    ⟨fun h => ⟨by omega, by omega, by omega, fun j hj => by omega⟩, fun h => by rw [decide_eq_false]; rintro rfl; exact h rfl⟩ ?_
  rintro v ⟨h0, h1, hl, hj⟩
  obtain ⟨i, rfl⟩ : ∃ i : Nat, v = i := ⟨v.toNat, by omega⟩
  refine ⟨fun hlt => ⟨⟨h0, hlt⟩, ⟨by omega, by omega⟩, fun he => ⟨⟨by omega, by omega⟩, ⟨by omega, by omega, hl, fun j hjl => ?_⟩, by dsimp only; omega⟩, fun he => ?_⟩, fun hge => ?_⟩
  · by_cases hji : j = i
    · subst hji; exact he
    · exact hj j (by omega)
  · rw [decide_eq_false]; rintro rfl; exact he rfl
  · rw [decide_eq_true]; exact ext_ai hl fun j hjl => hj j (by omega)
end Go.Ab
end
