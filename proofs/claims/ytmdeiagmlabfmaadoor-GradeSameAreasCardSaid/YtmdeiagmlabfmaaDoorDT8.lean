/- Grading commutes with turning. -/
import Derived.Test.YtmdeiagmlabfmaaDoorDT5
import Derived.Test.YtmdeiagmlabfmaaDoorDG15
set_option linter.unusedVariables false
set_option linter.unusedSimpArgs false
set_option linter.unusedSectionVars false

section
namespace Go.Ab
open Go.Proofs
set_option maxRecDepth 10000
set_option linter.unusedVariables false

theorem along_map {φ : Spot → Spot} {σ : Int} (k : Iso φ σ) (l : List Spot) (a b : Spot) : alongL (l.map φ) (φ a) (φ b) = (alongL l a b).map φ := by
  refine List.ext_getElem (by simp [alongL_len]) fun i h1 h2 => ?_
  rw [alongL_len, List.length_map] at h1
  have e := k.add l[i] ⟨sh l.length i a.x b.x, sh l.length i a.y b.y⟩
  rw [k.shl] at e
  simp only [alongL, List.getElem_map, List.getElem_range, alongAt, List.length_map, List.getElem?_map, List.getElem?_eq_getElem h1, Option.map_some, Option.getD_some]
  exact e.symm
theorem sh_rev {n k : Nat} (h : k < n) (a b : Int) : sh n k a b = sh n (n - 1 - k) b a := by
  unfold sh
  congr 1
  rw [show ((n : Int) - 1 - ((n - 1 - k : Nat) : Int)) = k by omega, show ((n - 1 - k : Nat) : Int) = (n : Int) - 1 - k by omega]; omega
theorem along_rev (l : List Spot) (a b : Spot) : alongL l.reverse a b = (alongL l b a).reverse := by
  refine List.ext_getElem (by simp [alongL_len]) fun i h1 h2 => ?_
  rw [alongL_len, List.length_reverse] at h1
  rw [List.getElem_reverse]
  simp only [alongL, List.getElem_map, List.getElem_range, alongAt, List.length_reverse, List.length_map, List.length_range]
  rw [List.getElem?_reverse h1, sh_rev h1 a.x, sh_rev h1 a.y]
theorem turnO_at {t : Turn} {l : List Edge} {i : Nat} (hi : i < l.length) : (turnO t l)[i]'(by rw [turnO_len]; exact hi) = turnE t (cy l (if t.flip = true then l.length - i else i)) := by
  have hc : cy (turnO t l) i = (turnO t l)[i]'(by rw [turnO_len]; exact hi) := cy_lt _
  rw [← hc]
  unfold turnO
  split
  · rw [cy_rev1 (by simp; omega) (by simp; omega), List.length_map, cy_map (by omega)]
  · rw [cy_map (by omega)]
theorem cy_graded {p : Piece} {m : Int} (hc : p.corners.length = p.edges.length) (h0 : 0 < p.edges.length) (k : Nat) : cy (gradedL p m) k = ⟨(cy p.edges k).name, alongL (cy p.edges k).line (mv m (vx p.corners k)) (mv m (vx p.corners (k + 1)))⟩ := by
  have hm : k % p.edges.length < p.edges.length := Nat.mod_lt _ h0
  have e1 : cy (gradedL p m) k = cy (gradedL p m) (k % p.edges.length) := by rw [← cy_mod, gradedL_len]
  rw [e1, cy_lt (by rw [gradedL_len]; exact hm), gradedL_at hm, gE_at hm, ← cy_lt hm, cy_mod]
  rw [← hc, vx_mod, vx_add]
theorem shifted_mild {c : Spot} (h : shifted c = true) : Mild c := by
  simp only [shifted, small, Bool.and_eq_true, decide_eq_true_eq] at h
  exact ⟨⟨by omega, by omega⟩, by omega, by omega⟩
theorem cornersT_len (t : Turn) (p : Piece) : (cornersT t p).length = p.corners.length := by simp [cornersT]
theorem vx_corners {t : Turn} {p : Piece} (hc : p.corners.length = p.edges.length) (h0 : 0 < p.edges.length) (hs : p.corners.all shifted = true) {i : Nat} (hi : i ≤ p.edges.length) :
    vx (cornersT t p) i = lin t (vx p.corners (if t.flip = true then p.edges.length - i + 1 else i)) := by
  have hv : ∀ k, Mild (vx p.corners k) := fun k => shifted_mild (List.all_eq_true.1 hs _ (vx_mem (by omega) k))
  have hm : i % p.corners.length < p.corners.length := Nat.mod_lt _ (by omega)
  have e1 : vx (cornersT t p) i = cAt t p (i % p.corners.length) := by
    rw [← vx_mod, cornersT_len, vx_lt (by rw [cornersT_len]; exact hm)]; simp [cornersT]
  rw [e1, cAt]
  have e2 : (p.corners[cFrom t p (i % p.corners.length)]?).getD default = vx p.corners (if t.flip = true then p.edges.length - i + 1 else i) := by
    unfold cFrom
    split
    · rename_i hf
      rw [if_pos hf.1, ← hc]
      unfold vx
      by_cases hin : i = p.corners.length
      · subst hin; rw [Nat.mod_self, Nat.sub_self, Nat.sub_zero, Nat.zero_add, show p.corners.length + 1 = 1 + p.corners.length by omega, Nat.add_mod_right]
      · rw [Nat.mod_eq_of_lt (show i < p.corners.length by omega)]
    · rename_i hf
      rw [if_neg (fun h => hf ⟨h, hc⟩)]; rfl
  rw [e2, app_lin (hv _)]
theorem mv_lin (t : Turn) (m : Int) (c : Spot) : mv m (lin t c) = lin t (mv m c) := ((iso_lin t).mul m c).symm
theorem graded_turn {p : Piece} {m : Int} (t : Turn) (hg : gerr p m = 0) : gradedL (turnP t p) m = turnO t (gradedL p m) := by
  obtain ⟨hm, hc, hs, ho, ho2⟩ := gerr_inv hg
  have O1 := ocheck_zero.1 ho
  have O2 := ocheck_zero.1 ho2
  have h0 : 0 < p.edges.length := by have := O1.two; omega
  refine List.ext_getElem (by rw [gradedL_len, turnO_len, gradedL_len]; exact turnO_len t _) fun i h1 h2 => ?_
  rw [turnO_len, gradedL_len] at h2
  have hq : i < (turnO t p.edges).length := by rw [turnO_len]; exact h2
  rw [gradedL_at (p := turnP t p) hq, gE_at (p := turnP t p) hq, turnO_at (by rw [gradedL_len]; exact h2), gradedL_len, cy_graded hc h0]
  show (⟨((turnO t p.edges)[i]'hq).name, alongL ((turnO t p.edges)[i]'hq).line (mv m (vx (cornersT t p) i)) (mv m (vx (cornersT t p) (i + 1)))⟩ : Edge) = _
  rw [turnO_at h2, vx_corners hc h0 hs (by omega), vx_corners hc h0 hs (by omega), mv_lin, mv_lin]
  generalize hk : (if t.flip = true then p.edges.length - i else i) = k
  have gl := (O2.lines _ (cy_mem (l := gradedL p m) (by rw [gradedL_len]; exact h0) k)).grid
  rw [cy_graded hc h0] at gl
  have pl := (O1.lines _ (cy_mem h0 k)).grid
  simp only [turnE, Edge.mk.injEq, true_and]
  rw [polyT_eq pl, polyT_eq gl]
  cases hf : t.flip with
  | false =>
    simp only [hf, Bool.false_eq_true, if_false] at hk ⊢
    subst hk
    exact along_map (iso_lin t) _ _ _
  | true =>
    simp only [hf, if_true] at hk ⊢
    rw [← along_map (iso_lin t), along_rev, show p.edges.length - i + 1 = k + 1 by omega, show p.edges.length - (i + 1) + 1 = k by omega]
theorem gerr_turn {p : Piece} {m : Int} (t : Turn) (hg : gerr p m = 0) : gerr (turnP t p) m = 0 := by
  obtain ⟨hm, hc, hs, ho, ho2⟩ := gerr_inv hg
  have O1 := ocheck_zero.1 ho
  have O2 := ocheck_zero.1 ho2
  have h0 : 0 < p.edges.length := by have := O1.two; omega
  rw [gerr_to (p := turnP t p) hm (by show (cornersT t p).length = (turnO t p.edges).length; rw [cornersT_len, turnO_len, hc]) ?_ (ocheck_zero.2 (O1.turn t)), graded_turn t hg]
  · exact ocheck_zero.2 (O2.turn t)
  · show (cornersT t p).all shifted = true
    rw [List.all_eq_true]
    intro c hcm
    obtain ⟨i, hi, rfl⟩ := List.getElem_of_mem hcm
    rw [cornersT_len] at hi
    rw [← vx_lt (by rw [cornersT_len]; exact hi), vx_corners hc h0 hs (by omega)]
    exact (iso_lin t).sm _ (List.all_eq_true.1 hs _ (vx_mem (by omega) _))
theorem invT_flip (t : Turn) : (invT t).flip = t.flip := by unfold invT; split <;> simp_all
theorem polyT_back {l : List Spot} (h : ∀ p, p ∈ l → Wd p) (t : Turn) : polyT (invT t) (polyT t l) = l := by
  have e : l.map (app (invT t) ∘ app t) = l := by
    conv => rhs; rw [← List.map_id l]
    exact List.map_congr_left fun p hp => app_inv (h p hp) t
  unfold polyT
  rw [invT_flip]
  split
  · rw [List.map_reverse, List.reverse_reverse, List.map_map, e]
  · rw [List.map_map, e]
theorem rev1_map {α β : Type} (f : α → β) (l : List α) : rev1 (l.map f) = (rev1 l).map f := by cases l <;> simp [rev1]
theorem rev1_rev1 {α : Type} (l : List α) : rev1 (rev1 l) = l := by cases l <;> simp [rev1]
theorem turnO_back {l : List Edge} (h : ∀ e, e ∈ l → ∀ p, p ∈ e.line → Wd p) (t : Turn) : turnO (invT t) (turnO t l) = l := by
  have e : l.map (turnE (invT t) ∘ turnE t) = l := by
    conv => rhs; rw [← List.map_id l]
    exact List.map_congr_left fun x hx => by simp only [Function.comp, turnE, polyT_back (h x hx), id]
  unfold turnO
  rw [invT_flip]
  split
  · rw [← rev1_map, rev1_rev1, List.map_map, e]
  · rw [List.map_map, e]
theorem cFrom_back {t : Turn} {p : Piece} {j : Nat} (hj : j < p.corners.length) : cFrom t p (cFrom t p j) = j ∧ cFrom t p j < p.corners.length := by
  unfold cFrom
  by_cases hf : t.flip = true ∧ p.corners.length = p.edges.length
  · rw [if_pos hf, if_pos hf, ← hf.2]
    generalize p.corners.length = n at hj
    by_cases h0 : j = 0
    · subst h0
      by_cases h1 : n = 1
      · subst h1; decide
      · rw [show n - 0 + 1 = 1 + n by omega, Nat.add_mod_right, Nat.mod_eq_of_lt (show 1 < n by omega), show n - 1 + 1 = n by omega, Nat.mod_self]; omega
    · by_cases h1 : j = 1
      · subst h1
        rw [show n - 1 + 1 = n by omega, Nat.mod_self, show n - 0 + 1 = 1 + n by omega, Nat.add_mod_right, Nat.mod_eq_of_lt hj]; omega
      · rw [Nat.mod_eq_of_lt (show n - j + 1 < n by omega), show n - (n - j + 1) + 1 = j by omega, Nat.mod_eq_of_lt hj]; omega
  · rw [if_neg hf, if_neg hf]; exact ⟨rfl, hj⟩
theorem corners_back {p : Piece} (h : ∀ c, c ∈ p.corners → Wd c) (t : Turn) : cornersT (invT t) (turnP t p) = p.corners := by
  refine List.ext_getElem (by rw [cornersT_len]; exact cornersT_len t p) fun j h1 h2 => ?_
  have hc : (turnP t p).corners = cornersT t p := rfl
  have he : (turnP t p).edges = turnO t p.edges := rfl
  have ef : cFrom (invT t) (turnP t p) j = cFrom t p j := by simp only [cFrom, invT_flip, hc, he, cornersT_len, turnO_len]
  have hb := cFrom_back (t := t) h2
  simp only [cornersT, List.getElem_map, List.getElem_range]
  rw [cAt, ef, hc, List.getElem?_eq_getElem (by rw [cornersT_len]; exact hb.2)]
  simp only [cornersT, List.getElem_map, List.getElem_range, Option.getD_some, cAt, hb.1, List.getElem?_eq_getElem h2]
  exact app_inv (h _ (List.getElem_mem h2)) t
/-- All numbers of a piece are the machine's. -/
def WP (p : Piece) : Prop := (∀ e, e ∈ p.edges → ∀ s, s ∈ e.line → Wd s) ∧ ∀ c, c ∈ p.corners → Wd c
theorem wp_of {p : Piece} (h1 : ∀ e, e ∈ p.edges → ∀ s, s ∈ e.line → InR s.x ∧ InR s.y) (h2 : ∀ c, c ∈ p.corners → InR c.x ∧ InR c.y) : WP p := ⟨h1, h2⟩
theorem gerr_cong {p q : Piece} {m : Int} (h1 : p.edges = q.edges) (h2 : p.corners = q.corners) : gerr p m = gerr q m := by
  unfold gerr gradedL
  have : gE p m = gE q m := by funext i; unfold gE; rw [h1, h2]
  rw [this, h1, h2]
theorem gerr_turn_iff {p : Piece} {m : Int} (hw : WP p) (t : Turn) : gerr (turnP t p) m = 0 ↔ gerr p m = 0 := by
  refine ⟨fun h => ?_, gerr_turn t⟩
  have := gerr_turn (invT t) h
  rwa [gerr_cong (q := p) (turnO_back hw.1 t) (corners_back hw.2 t)] at this
end Go.Ab
end

section
namespace Go.Ab
open Go.Proofs
set_option maxRecDepth 10000
set_option linter.unusedVariables false

def sumN (f : Nat → Int) : Nat → Int
  | 0 => 0
  | n + 1 => sumN f n + f n
theorem sumN_congr {f g : Nat → Int} : ∀ {n : Nat}, (∀ i, i < n → f i = g i) → sumN f n = sumN g n
  | 0, _ => rfl
  | n + 1, h => by rw [sumN, sumN, sumN_congr fun i hi => h i (by omega), h n (by omega)]
theorem sumN_succ (f : Nat → Int) : ∀ n, sumN (fun i => f (i + 1)) n = sumN f n + f n - f 0
  | 0 => by simp [sumN]
  | n + 1 => by rw [sumN, sumN_succ f n, sumN]; omega
theorem sumN_shift {f : Nat → Int} {n : Nat} (hp : ∀ i, f (i + n) = f i) : ∀ r, sumN (fun i => f (i + r)) n = sumN f n
  | 0 => rfl
  | r + 1 => by
    have := sumN_succ (fun i => f (i + r)) n
    simp only [show ∀ i, i + 1 + r = i + (r + 1) from fun i => by omega] at this
    rw [this, sumN_shift hp r]
    have e := hp r
    rw [Nat.zero_add, Nat.add_comm n r, e]; omega
theorem sumN_front (g : Nat → Int) (n : Nat) : sumN g (n + 1) = g 0 + sumN (fun i => g (i + 1)) n := by rw [sumN_succ, sumN]; omega
theorem sumN_rev (g : Nat → Int) : ∀ n, sumN (fun i => g (n - 1 - i)) n = sumN g n
  | 0 => rfl
  | n + 1 => by
    rw [sumN_front]
    have : sumN (fun i => g (n + 1 - 1 - (i + 1))) n = sumN (fun i => g (n - 1 - i)) n := sumN_congr fun i hi => by rw [show n + 1 - 1 - (i + 1) = n - 1 - i by omega]
    rw [this, sumN_rev g n, sumN]
    simp only [show n + 1 - 1 - 0 = n by omega]; omega
theorem sumN_mul (c : Int) (f : Nat → Int) : ∀ n, sumN (fun i => c * f i) n = c * sumN f n
  | 0 => by simp [sumN]
  | n + 1 => by rw [sumN, sumN_mul c f n, sumN, Int.mul_add]
theorem sumN_box {f : Nat → Int} {B : Int} : ∀ {n : Nat}, (∀ i, i < n → -B ≤ f i ∧ f i ≤ B) → -(B * n) ≤ sumN f n ∧ sumN f n ≤ B * n
  | 0, _ => by simp [sumN]
  | n + 1, h => by
    have a := sumN_box (n := n) fun i hi => h i (by omega)
    have b := h n (by omega)
    rw [sumN, Int.natCast_succ, Int.mul_add, Int.mul_one]; omega
def crAt (p : List Spot) (i : Nat) : Int := cr (vx p i) (vx p (i + 1))
/-- Twice the area. -/
def areaL (p : List Spot) : Int := sumN (crAt p) p.length
theorem vx_per (p : List Spot) (i : Nat) : vx p (i + p.length) = vx p i := by simp [vx]
theorem crAt_per (p : List Spot) (i : Nat) : crAt p (i + p.length) = crAt p i := by
  unfold crAt
  rw [vx_per, show i + p.length + 1 = (i + 1) + p.length by omega, vx_per]
theorem area_rot {a b : List Spot} (h : 0 < (a ++ b).length) : areaL (b ++ a) = areaL (a ++ b) := by
  have hl : (b ++ a).length = (a ++ b).length := by simp; omega
  unfold areaL
  rw [hl, ← sumN_shift (f := crAt (a ++ b)) (crAt_per _) a.length]
  refine sumN_congr fun i _ => ?_
  unfold crAt
  rw [vx_rot a b i h, vx_rot a b (i + 1) h, show i + 1 + a.length = i + a.length + 1 by omega]
theorem cr_swap (a b : Spot) : cr b a = -cr a b := by
  unfold cr
  have := Int.mul_comm b.x a.y; have := Int.mul_comm b.y a.x; omega
theorem area_rev {p : List Spot} (h : 0 < p.length) : areaL p.reverse = -areaL p := by
  unfold areaL
  rw [List.length_reverse]
  have e : sumN (crAt p.reverse) p.length = sumN (fun i => (-1) * crAt p (p.length - 1 - i + (p.length - 1))) p.length := sumN_congr fun i hi => by
    unfold crAt
    rw [vx_rev h (K := 2) (show i < p.length * 2 by omega), vx_rev h (K := 2) (show i + 1 < p.length * 2 by omega), cr_swap, show p.length - 1 - i + (p.length - 1) = p.length * 2 - 1 - (i + 1) by omega, show p.length * 2 - 1 - (i + 1) + 1 = p.length * 2 - 1 - i by omega]
    omega
  rw [e, sumN_mul, sumN_rev fun j => crAt p (j + (p.length - 1)), sumN_shift (crAt_per p)]; omega
theorem area_map {p : List Spot} {φ : Spot → Spot} {σ : Int} (k : Iso φ σ) (h : 0 < p.length) : areaL (p.map φ) = σ * areaL p := by
  unfold areaL
  rw [List.length_map, ← sumN_mul]
  refine sumN_congr fun i _ => ?_
  unfold crAt
  rw [vx_map h, vx_map h, k.cr]
theorem area_turn {l : List Edge} (h : Outl l) (t : Turn) : areaL (vertsL (turnO t l)) = areaL (vertsL l) := by
  have h3 := h.poly.three
  rcases verts_turn h.two h.lines h.chain t with ⟨hf, e⟩ | ⟨hf, x, v, a, b, e1, e2, e3⟩
  · rw [e, area_map (iso_lin t) (by omega), sgn, hf]; simp
  · have hl : (a ++ b).length = (vertsL l).length := by rw [← e2, e1]; simp
    have hl2 : (b ++ a).length = (a ++ b).length := by simp; omega
    have e4 : areaL (x :: v) = areaL (v ++ [x]) := area_rot (a := v) (b := [x]) (by simp)
    rw [e3, area_map (iso_lin t) (by rw [List.length_reverse]; omega), area_rev (by omega), area_rot (by omega), ← e2, ← e4, ← e1, sgn, hf]
    simp
/-- A term of the program's sum. -/
def trap (p : List Spot) (i : Nat) : Int := ((vx p (i + 1)).x - (vx p i).x) * ((vx p i).y + (vx p (i + 1)).y)
theorem trap_sum (p : List Spot) : ∀ n, sumN (trap p) n = -sumN (crAt p) n + ((vx p n).x * (vx p n).y - (vx p 0).x * (vx p 0).y)
  | 0 => by simp [sumN]
  | n + 1 => by
    rw [sumN, trap_sum p n, sumN]
    simp only [trap, crAt, cr, Int.sub_mul, Int.mul_add]
    have := Int.mul_comm (vx p (n + 1)).x (vx p n).y
    omega
theorem trap_area (p : List Spot) : -sumN (trap p) p.length = areaL p := by
  have : vx p p.length = vx p 0 := by have := vx_per p 0; rwa [Nat.zero_add] at this
  rw [trap_sum, this, areaL]; omega
theorem trap_box {p : List Spot} (hg : ∀ q, q ∈ p → G q) (h : 0 < p.length) (i : Nat) : -4398046511104 ≤ trap p i ∧ trap p i ≤ 4398046511104 := by
  obtain ⟨⟨a1, a2⟩, a3, a4⟩ := hg _ (vx_mem h i)
  obtain ⟨⟨b1, b2⟩, b3, b4⟩ := hg _ (vx_mem h (i + 1))
  exact mul_box (K := 2097152) (L := 2097152) (by omega) (by omega) (by omega) (by omega)
theorem ret_area {p : List Spot} (hg : ∀ q, q ∈ p → G q) (h40 : p.length ≤ 40) : Ret Tryd.prog XS 42 [.sl 2 (p.map cSpot)] (int (areaL p)) := by
  have bx : ∀ n : Nat, n ≤ p.length → -175921860444160 ≤ sumN (trap p) n ∧ sumN (trap p) n ≤ 175921860444160 := fun n hn => by
    by_cases h0 : n = 0
    · subst h0; simp [sumN]
    · have := sumN_box (n := n) fun i _ => trap_box hg (show 0 < p.length by omega) i
      omega
  refine polygon_area_W p (areaL p) (fun l s v => l = sidesL p ∧ 0 ≤ v ∧ v ≤ p.length ∧ s = sumN (trap p) v.toNat) (fun l s v => p.length - v.toNat) ⟨_, ret_sides p (by omega), rfl, by omega, by omega, rfl⟩ ?_
  rintro l s v ⟨rfl, h0, h1, rfl⟩
  obtain ⟨i, rfl⟩ : ∃ i : Nat, v = i := ⟨v.toNat, by omega⟩
  refine ⟨fun hlt => ?_, fun hge => ?_⟩
  · rw [sidesL_len] at hlt
    have hi : i < p.length := by omega
    rw [ai_side rfl hi]
    have b1 := trap_box hg (show 0 < p.length by omega) i
    have b2 := bx i (by omega)
    have b3 := bx (i + 1) (by omega)
    obtain ⟨⟨a1, a2⟩, a3, a4⟩ := hg _ (vx_mem (show 0 < p.length by omega) i)
    obtain ⟨⟨c1, c2⟩, c3, c4⟩ := hg _ (vx_mem (show 0 < p.length by omega) (i + 1))
    have e : sumN (trap p) (i : Int).toNat + trap p i = sumN (trap p) ((i : Int) + 1).toNat := by rw [show ((i : Int) + 1).toNat = i + 1 by omega, show (i : Int).toNat = i from rfl, sumN]
    refine ⟨⟨h0, by rw [sidesL_len]; exact hlt⟩, ⟨by simp only [sideAt]; omega, by simp only [sideAt]; omega⟩, ⟨by simp only [sideAt]; omega, by simp only [sideAt]; omega⟩, ?_, ?_, ⟨by omega, by omega⟩, ⟨rfl, by omega, by omega, e⟩, by dsimp only; omega⟩
    · show InR (trap p i); exact ⟨by omega, by omega⟩
    · show InR (sumN (trap p) (i : Int).toNat + trap p i); rw [e, show ((i : Int) + 1).toNat = i + 1 by omega]; exact ⟨by omega, by omega⟩
  · rw [sidesL_len] at hge
    rw [show (i : Int).toNat = p.length by omega]
    have := bx p.length (by omega)
    exact ⟨⟨by omega, by omega⟩, (trap_area p).symm⟩
theorem ret_area2 {p : List Spot} (h : Poly p) : Ret Tryd.prog XS 34 [.sl 2 (p.map cSpot)] (int (areaL p)) :=
  polygon_Area2_W p _ ⟨_, ret_pcheck p, fun _ => ⟨_, ret_area h.grid h.forty, rfl⟩, fun hn => absurd (pcheck_zero.2 h) hn⟩
theorem area_range {p : List Spot} (h : Poly p) : -175921860444160 ≤ areaL p ∧ areaL p ≤ 175921860444160 := by
  have h3 := h.three
  have h40 := h.forty
  have := sumN_box (n := p.length) fun i _ => trap_box h.grid (show 0 < p.length by omega) i
  rw [← trap_area]; omega
theorem ret_polygon {l : List Edge} (h : Outl l) : Ret Tryd.prog XS 33 [.sl 2 (l.map cEdge)] (.tup [.fr 2 ((vertsL l).map cSpot), int 0]) := by
  have := h.sixteen
  exact outline_Polygon_W l _ _ ⟨_, ret_ocheck l, fun _ => ⟨_, ret_vertices l (fun e he => ⟨by have := (h.lines e he).two; omega, (h.lines e he).forty⟩) (by omega), rfl, rfl⟩, fun hn => absurd (ocheck_zero.2 h) hn⟩
noncomputable def aOf (p : Piece) (m : Int) : Int := max (areaL (vertsL (gradedL p m))) (-areaL (vertsL (gradedL p m)))
noncomputable def aErr (p : Piece) (ms : List Int) : Int := ((ms.map (gerr p)).find? fun e => decide (e ≠ 0)).getD 0
noncomputable def aRes (p : Piece) (ms : List Int) : List Int := if aErr p ms = 0 then ms.map (aOf p) else []
theorem find_at {l : List Int} {i : Nat} (hi : i < l.length) (h0 : ∀ j, (hj : j < i) → l[j] = 0) (h : l[i] ≠ 0) : (l.find? fun e => decide (e ≠ 0)).getD 0 = l[i] := by
  have : l.find? (fun e => decide (e ≠ 0)) = some l[i] := by
    rw [List.find?_eq_some_iff_getElem]
    exact ⟨by simpa using h, i, hi, rfl, fun j hj => by simp [h0 j hj]⟩
  rw [this]; rfl
theorem find_none {l : List Int} : (l.find? fun e => decide (e ≠ 0)).getD 0 = 0 ↔ ∀ x, x ∈ l → x = 0 := by
  constructor
  · intro h x hx
    apply Classical.byContradiction
    intro hne
    cases hf : l.find? (fun e => decide (e ≠ 0)) with
    | none => rw [List.find?_eq_none] at hf; exact hf x hx (by simpa using hne)
    | some y => have := List.find?_some hf; rw [hf] at h; simp at this h; exact this h
  · intro h
    have : l.find? (fun e => decide (e ≠ 0)) = none := by rw [List.find?_eq_none]; intro x hx; simp [h x hx]
    rw [this]; rfl
theorem aErr_zero {p : Piece} {ms : List Int} : aErr p ms = 0 ↔ ∀ m, m ∈ ms → gerr p m = 0 := by
  unfold aErr
  rw [find_none]
  exact ⟨fun h m hm => h _ (List.mem_map.2 ⟨m, hm, rfl⟩), fun h x hx => by obtain ⟨m, hm, rfl⟩ := List.mem_map.1 hx; exact h m hm⟩
theorem ret_areas (p : Piece) (ms : List Int) (hc : p.corners.length ≤ 1000000) (hn : ms.length ≤ 1000000) : Ret Tryd.prog XS 15 [.agg [str p.name, .sl 2 (p.edges.map cEdge), int p.grain, .sl 2 (p.notches.map cNotch), .sl 2 (p.corners.map cSpot), .sl 1 (p.widths.map cI), boo p.match_], .sl 1 (ms.map cI)] (.tup [.fr 1 ((aRes p ms).map cI), int (aErr p ms)]) := by
  refine grade_Areas_W p ms (aRes p ms) (aErr p ms) (fun o v => 0 ≤ v ∧ v ≤ ms.length ∧ o = (ms.take v.toNat).map (aOf p) ∧ ∀ j : Nat, (h : j < ms.length) → (j : Int) < v → gerr p ms[j] = 0) (fun o v => ms.length - v.toNat) ⟨by omega, by omega, by simp, fun j _ hj => by omega⟩ ?_
  rintro o v ⟨h0, h1, rfl, hj⟩
  obtain ⟨i, rfl⟩ : ∃ i : Nat, v = i := ⟨v.toNat, by omega⟩
  refine ⟨fun hlt => ?_, fun hge => ?_⟩
  · have hi : i < ms.length := by omega
    rw [ai_get rfl hi]
    refine ⟨⟨h0, hlt⟩, _, _, ret_graded p _ hc, fun hz => ?_, fun hz => ?_⟩
    · rw [gres_eq hz]
      have O := ocheck_zero.1 (gerr_inv hz).2.2.2.2
      have ar := area_range O.poly
      have e : (ms.take (i : Int).toNat).map (aOf p) ++ [max (areaL (vertsL (gradedL p ms[i]))) (-areaL (vertsL (gradedL p ms[i])))] = (ms.take ((i : Int) + 1).toNat).map (aOf p) := by
        rw [show ((i : Int) + 1).toNat = i + 1 by omega, show (i : Int).toNat = i from rfl, List.take_add_one, List.map_append]
        simp [hi, aOf]
      refine ⟨_, _, ret_polygon O, fun _ => ⟨_, ret_area2 O.poly, ⟨by omega, by omega⟩, ?_, ⟨by omega, by omega⟩, ⟨by omega, by omega, e, fun j hjl hjv => ?_⟩, by dsimp only; omega⟩, fun hn => absurd rfl hn⟩
      · rw [e]; simp only [Cap, List.length_map, List.length_take]; omega
      · by_cases hji : j = i
        · subst hji; exact hz
        · exact hj j hjl (by omega)
    · have e : aErr p ms = gerr p ms[i] := by
        unfold aErr
        rw [find_at (i := i) (by simpa using hi) (fun j hji => by simpa using hj j (by omega) (by omega)) (by simpa using hz)]
        simp
      exact ⟨by rw [aRes, if_neg (by rw [e]; exact hz)], e⟩
  · have e : aErr p ms = 0 := aErr_zero.2 fun m hm => by
      obtain ⟨j, hjl, rfl⟩ := List.getElem_of_mem hm
      exact hj j hjl (by omega)
    exact ⟨by rw [aRes, if_pos e, show (i : Int).toNat = ms.length by omega, List.take_length], e⟩
theorem aErr_turn {p : Piece} {ms : List Int} (hw : WP p) (t : Turn) : aErr (turnP t p) ms = 0 ↔ aErr p ms = 0 := by
  rw [aErr_zero, aErr_zero]
  exact ⟨fun h m hm => (gerr_turn_iff hw t).1 (h m hm), fun h m hm => gerr_turn t (h m hm)⟩
theorem aRes_turn {p : Piece} {ms : List Int} (t : Turn) (h : aErr p ms = 0) (h2 : aErr (turnP t p) ms = 0) : aRes (turnP t p) ms = aRes p ms := by
  rw [aRes, aRes, if_pos h, if_pos h2]
  refine List.map_congr_left fun m hm => ?_
  have hz := aErr_zero.1 h m hm
  unfold aOf
  rw [graded_turn t hz, area_turn (ocheck_zero.1 (gerr_inv hz).2.2.2.2)]
theorem ret_ints (a b : List Int) (hn : a.length ≤ 1000000) : Ret Tryd.prog XS 16 [.sl 1 (a.map cI), .sl 1 (b.map cI)] (boo (decide (a = b))) := by
  refine garmentref21_SameInts_W a b _ (fun v => 0 ≤ v ∧ v ≤ a.length ∧ a.length = b.length ∧ ∀ j : Nat, (j : Int) < v → ai a (j : Int) = ai b (j : Int)) (fun v => a.length - v.toNat)
    ⟨fun h => ⟨by omega, by omega, by omega, fun j hj => by omega⟩, fun h => by rw [decide_eq_false]; rintro rfl; exact h rfl⟩ ?_
  rintro v ⟨h0, h1, hl, hj⟩
  obtain ⟨i, rfl⟩ : ∃ i : Nat, v = i := ⟨v.toNat, by omega⟩
  refine ⟨fun hlt => ⟨⟨h0, hlt⟩, ⟨by omega, by omega⟩, fun he => ⟨⟨by omega, by omega⟩, ⟨by omega, by omega, hl, fun j hjl => ?_⟩, by dsimp only; omega⟩, fun he => ?_⟩, fun hge => ?_⟩
  · by_cases hji : j = i
    · subst hji; exact he
    · exact hj j (by omega)
  · rw [decide_eq_false]; rintro rfl; exact he rfl
  · rw [decide_eq_true]; exact ext_ai hl fun j hjl => hj j (by omega)
end Go.Ab
end
