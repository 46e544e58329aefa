/- Grading commutes with turning. -/
import Derived.Test.YtmdeiagmlabfmaaDoorDT5
import Derived.Test.YtmdeiagmlabfmaaDoorDG15
set_option linter.unusedVariables false
set_option linter.unusedSimpArgs false
set_option linter.unusedSectionVars false

section
namespace Go.Ab
open Go.Proofs
set_option maxRecDepth 10000
set_option linter.unusedVariables false

theorem turnO_at {t : Turn} {l : List Edge} {i : Nat} (hi : i < l.length) : (turnO t l)[i]'(by rw [turnO_len]; exact hi) = turnE t (cy l (if t.flip = true then l.length - i else i)) := by
  have hc : cy (turnO t l) i = (turnO t l)[i]'(by rw [turnO_len]; exact hi) := cy_lt _
  rw [← hc]
  unfold turnO
  split
  · rw [cy_rev1 (by simp; omega) (by simp; omega), List.length_map, cy_map (by omega)]
  · rw [cy_map (by omega)]
theorem cornersT_len (t : Turn) (p : Piece) : (cornersT t p).length = p.corners.length := by simp [cornersT]
theorem invT_flip (t : Turn) : (invT t).flip = t.flip := by unfold invT; split <;> simp_all
theorem rev1_map {α β : Type} (f : α → β) (l : List α) : rev1 (l.map f) = (rev1 l).map f := by cases l <;> simp [rev1]
theorem rev1_rev1 {α : Type} (l : List α) : rev1 (rev1 l) = l := by cases l <;> simp [rev1]
theorem cFrom_back {t : Turn} {p : Piece} {j : Nat} (hj : j < p.corners.length) : cFrom t p (cFrom t p j) = j ∧ cFrom t p j < p.corners.length := by
  unfold cFrom
  by_cases hf : t.flip = true ∧ p.corners.length = p.edges.length
  · rw [if_pos hf, if_pos hf, ← hf.2]
    generalize p.corners.length = n at hj
    by_cases h0 : j = 0
    · subst h0
      by_cases h1 : n = 1
      · subst h1; decide
      · rw [show n - 0 + 1 = 1 + n by omega, Nat.add_mod_right, Nat.mod_eq_of_lt (show 1 < n by omega), show n - 1 + 1 = n by omega, Nat.mod_self]; omega
    · by_cases h1 : j = 1
      · subst h1
        rw [show n - 1 + 1 = n by omega, Nat.mod_self, show n - 0 + 1 = 1 + n by omega, Nat.add_mod_right, Nat.mod_eq_of_lt hj]; omega
      · rw [Nat.mod_eq_of_lt (show n - j + 1 < n by omega), show n - (n - j + 1) + 1 = j by omega, Nat.mod_eq_of_lt hj]; omega
  · rw [if_neg hf, if_neg hf]; exact ⟨rfl, hj⟩
/-- All numbers of a piece are the machine's. -/
def WP (p : Piece) : Prop := (∀ e, e ∈ p.edges → ∀ s, s ∈ e.line → Wd s) ∧ ∀ c, c ∈ p.corners → Wd c
theorem wp_of {p : Piece} (h1 : ∀ e, e ∈ p.edges → ∀ s, s ∈ e.line → InR s.x ∧ InR s.y) (h2 : ∀ c, c ∈ p.corners → InR c.x ∧ InR c.y) : WP p := ⟨h1, h2⟩
end Go.Ab
end

section
namespace Go.Ab
open Go.Proofs
set_option maxRecDepth 10000
set_option linter.unusedVariables false

def sumN (f : Nat → Int) : Nat → Int
  | 0 => 0
  | n + 1 => sumN f n + f n
theorem sumN_congr {f g : Nat → Int} : ∀ {n : Nat}, (∀ i, i < n → f i = g i) → sumN f n = sumN g n
  | 0, _ => rfl
  | n + 1, h => by rw [sumN, sumN, sumN_congr fun i hi => h i (by omega), h n (by omega)]
theorem sumN_succ (f : Nat → Int) : ∀ n, sumN (fun i => f (i + 1)) n = sumN f n + f n - f 0
  | 0 => by simp [sumN]
  | n + 1 => by rw [sumN, sumN_succ f n, sumN]; omega
theorem sumN_front (g : Nat → Int) (n : Nat) : sumN g (n + 1) = g 0 + sumN (fun i => g (i + 1)) n := by rw [sumN_succ, sumN]; omega
theorem sumN_rev (g : Nat → Int) : ∀ n, sumN (fun i => g (n - 1 - i)) n = sumN g n
  | 0 => rfl
  | n + 1 => by
    rw [sumN_front]
    have : sumN (fun i => g (n + 1 - 1 - (i + 1))) n = sumN (fun i => g (n - 1 - i)) n := sumN_congr fun i hi => by rw [show n + 1 - 1 - (i + 1) = n - 1 - i by omega]
    rw [this, sumN_rev g n, sumN]
    simp only [show n + 1 - 1 - 0 = n by omega]; omega
theorem ret_ints (a b : List Int) (hn : a.length ≤ 1000000) : Ret Tryd.prog XS 16 [.sl 1 (a.map cI), .sl 1 (b.map cI)] (boo (decide (a = b))) := by
  refine garmentref21_SameInts_W a b _ (fun v => 0 ≤ v ∧ v ≤ a.length ∧ a.length = b.length ∧ ∀ j : Nat, (j : Int) < v → ai a (j : Int) = ai b (j : Int)) (fun v => a.length - v.toNat)
    ⟨fun h => ⟨by omega, by omega, by omega, fun j hj => by omega⟩, fun h => by rw [decide_eq_false]; rintro rfl; exact h rfl⟩ ?_
  rintro v ⟨h0, h1, hl, hj⟩
  obtain ⟨i, rfl⟩ : ∃ i : Nat, v = i := ⟨v.toNat, by omega⟩
  refine ⟨fun hlt => ⟨⟨h0, hlt⟩, ⟨by omega, by omega⟩, fun he => ⟨⟨by omega, by omega⟩, ⟨by omega, by omega, hl, fun j hjl => ?_⟩, by dsimp only; omega⟩, fun he => ?_⟩, fun hge => ?_⟩
  · by_cases hji : j = i
    · subst hji; exact he
    · exact hj j (by omega)
  · rw [decide_eq_false]; rintro rfl; exact he rfl
  · rw [decide_eq_true]; exact ext_ai hl fun j hjl => hj j (by omega)
end Go.Ab
end

section
namespace Go.Ab
open Go.Proofs
set_option maxRecDepth 10000
set_option linter.unusedVariables false

theorem polyT_comp {l : List Spot} (h : ∀ p, p ∈ l → Wd p) (a b : Turn) : polyT b (polyT a l) = polyT (compT a b) l := by
  have e : l.map (app b ∘ app a) = l.map (app (compT a b)) := List.map_congr_left fun p hp => app_comp (h p hp) a b
  have ef : (compT a b).flip = !(a.flip == b.flip) := rfl
  unfold polyT
  rw [ef]
  cases a.flip <;> cases b.flip <;> simp [List.map_reverse, e]
theorem turnO_comp {l : List Edge} (h : ∀ e, e ∈ l → ∀ p, p ∈ e.line → Wd p) (a b : Turn) : turnO b (turnO a l) = turnO (compT a b) l := by
  have e : l.map (turnE b ∘ turnE a) = l.map (turnE (compT a b)) := List.map_congr_left fun x hx => by simp only [Function.comp, turnE, polyT_comp (h x hx)]
  have ef : (compT a b).flip = !(a.flip == b.flip) := rfl
  unfold turnO
  rw [ef]
  cases a.flip <;> cases b.flip <;> simp [← rev1_map, rev1_rev1, e]
theorem corners_comp {p : Piece} (h : ∀ c, c ∈ p.corners → Wd c) (a b : Turn) : cornersT b (turnP a p) = cornersT (compT a b) p := by
  refine List.ext_getElem (by rw [cornersT_len, cornersT_len]; exact cornersT_len a p) fun j h1 h2 => ?_
  rw [cornersT_len] at h2
  have hc : (turnP a p).corners = cornersT a p := rfl
  have he : (turnP a p).edges = turnO a p.edges := rfl
  have ef : cFrom b (turnP a p) j = cFrom b p j := by simp only [cFrom, hc, he, cornersT_len, turnO_len]
  have hb := cFrom_back (t := b) h2
  simp only [cornersT, List.getElem_map, List.getElem_range]
  rw [cAt, ef, hc, List.getElem?_eq_getElem (by rw [cornersT_len]; exact hb.2)]
  simp only [cornersT, List.getElem_map, List.getElem_range, Option.getD_some, cAt]
  have hk : cFrom a p (cFrom b p j) = cFrom (compT a b) p j := by
    have hs : ∀ t : Turn, t.flip = false → ∀ i, cFrom t p i = i := fun t ht i => if_neg (by simp [ht])
    have hsame : ∀ t u : Turn, t.flip = u.flip → ∀ i, cFrom t p i = cFrom u p i := fun t u ht i => by simp only [cFrom, ht]
    have ef : (compT a b).flip = !(a.flip == b.flip) := rfl
    cases ha : a.flip with
    | false =>
      rw [hs a ha]
      exact hsame _ _ (by rw [ef, ha]; cases b.flip <;> rfl) _
    | true =>
      cases hbf : b.flip with
      | false => rw [hs b hbf]; exact hsame _ _ (by rw [ef, ha, hbf]; rfl) _
      | true => rw [hs (compT a b) (by rw [ef, ha, hbf]; rfl), hsame a b (by rw [ha, hbf])]; exact hb.1
  have hkl : cFrom a p (cFrom b p j) < p.corners.length := (cFrom_back (t := a) hb.2).2
  rw [hk] at hkl ⊢
  rw [List.getElem?_eq_getElem hkl]
  exact app_comp (h _ (List.getElem_mem hkl)) a b
theorem flip_back {n j : Nat} (h : j < n) : (n - (n - j) % n) % n = j ∧ (n - j) % n < n := by
  by_cases h0 : j = 0
  · subst h0; rw [Nat.sub_zero, Nat.mod_self, Nat.sub_zero, Nat.mod_self]; omega
  · rw [Nat.mod_eq_of_lt (show n - j < n by omega), show n - (n - j) = j by omega, Nat.mod_eq_of_lt h]; omega
theorem widthsT_len (t : Turn) (p : Piece) : (widthsT t p).length = p.widths.length := by unfold widthsT; split <;> simp
theorem widths_comp {p : Piece} (h : p.widths.length = p.edges.length) (a b : Turn) : widthsT b (turnP a p) = widthsT (compT a b) p := by
  have hw : (turnP a p).widths = widthsT a p := rfl
  have he : (turnP a p).edges.length = p.edges.length := turnO_len a p.edges
  have ef : (compT a b).flip = !(a.flip == b.flip) := rfl
  have hwl : (turnP a p).widths.length = p.edges.length := by rw [hw, widthsT_len, h]
  have wt : ∀ (t : Turn) (q : Piece), q.widths.length = q.edges.length → widthsT t q = if t.flip = true then (List.range q.widths.length).map (wAt q) else q.widths := fun t q hq => by
    unfold widthsT
    by_cases ht : t.flip = true
    · rw [if_pos ⟨ht, hq⟩, if_pos ht]
    · rw [if_neg (fun x => ht x.1), if_neg ht]
  rw [wt b _ (by rw [hwl, he]), wt _ p h, ef, hw, wt a p h]
  cases hb : b.flip with
  | false => cases a.flip <;> simp
  | true =>
    simp only [if_true]
    cases ha : a.flip with
    | false =>
      simp only [Bool.false_eq_true, if_false]
      refine List.map_congr_left fun j _ => ?_
      simp only [wAt, he]
      rw [hw, wt a p h, ha]; rfl
    | true =>
      simp only [if_true]
      refine List.ext_getElem (by simp) fun j h1 h2 => ?_
      simp only [List.length_map, List.length_range] at h1
      have fb := flip_back (n := p.edges.length) (j := j) (by omega)
      simp only [List.getElem_map, List.getElem_range, wAt, he]
      rw [hw, wt a p h, ha]
      simp only [if_true]
      rw [List.getElem?_eq_getElem (by rw [List.length_map, List.length_range]; omega)]
      simp only [List.getElem_map, List.getElem_range, wAt, fb.1, Option.getD_some, List.getElem?_eq_getElem h1]
      simp
theorem seg_comm (a b : Spot) : seg a b = seg b a := by
  unfold seg sq
  rw [show a.x - b.x = -(b.x - a.x) by omega, show a.y - b.y = -(b.y - a.y) by omega, Int.neg_mul_neg, Int.neg_mul_neg]
def segAt (l : List Spot) (i : Nat) : Int := seg (ai l (i : Int)) (ai l ((i : Int) + 1))
theorem total_sum {l : List Spot} (h : 0 < l.length) : total l = sumN (segAt l) (l.length - 1) := by
  have : ∀ k, sumTo l k = sumN (segAt l) k := fun k => by
    induction k with
    | zero => rfl
    | succ k ih => rw [sumTo, sumN, ih]; rfl
  unfold total upTo
  rw [show ((l.length : Int) - 1).toNat = l.length - 1 by omega, this]
theorem segAt_lt {l : List Spot} {i : Nat} (h : i + 1 < l.length) : segAt l i = seg l[i] l[i + 1] := by
  unfold segAt
  rw [ai_get rfl (show i < l.length by omega), ai_get (i := i + 1) (by omega) h]
theorem total_map {l : List Spot} {φ : Spot → Spot} {σ : Int} (k : Iso φ σ) (h : 0 < l.length) : total (l.map φ) = total l := by
  rw [total_sum (by simpa using h), total_sum h, List.length_map]
  refine sumN_congr fun i hi => ?_
  rw [segAt_lt (by simp; omega), segAt_lt (by omega)]
  simp only [List.getElem_map, seg, k.sq]
theorem total_rev {l : List Spot} (h : 0 < l.length) : total l.reverse = total l := by
  rw [total_sum (by simpa using h), total_sum h, List.length_reverse, ← sumN_rev]
  refine sumN_congr fun i hi => ?_
  rw [segAt_lt (by simp; omega), segAt_lt (by omega), seg_comm]
  simp only [List.getElem_reverse]
  congr 1
  · congr 1; omega
  · congr 1; omega
theorem lenL_turn {l : List Spot} (h : Line l) (t : Turn) : lenL (polyT t l) = lenL l := by
  have h2 := h.two
  rw [lenL, lenL, if_pos (check_zero.2 h), if_pos (check_zero.2 (h.turn t)), polyT_eq h.grid]
  split
  · rw [total_rev (by simp; omega), total_map (iso_lin t) (by omega)]
  · rw [total_map (iso_lin t) (by omega)]
/-- Notches on edges. -/
def NotchOk (p : Piece) (x : Notch) : Prop := (0 ≤ x.edge ∧ x.edge < p.edges.length) ∧ 0 ≤ x.at_ ∧ x.at_ ≤ lenL (ai p.edges x.edge).line
theorem mirr_eq {l : List Edge} {x : Notch} {i : Nat} (hi : x.edge = i) (hl : i < l.length) (h0 : 0 ≤ x.at_) (h1 : x.at_ ≤ lenL l[i].line) : mirr l x = ⟨(((l.length - i) % l.length : Nat) : Int), lenL l[i].line - x.at_⟩ := by
  have e : ai l x.edge = l[i] := by rw [hi]; exact ai_get rfl hl
  rw [mirr, if_neg (by omega), e, if_pos ⟨h0, h1⟩, tmod_nat (i := l.length - i) (n := l.length) (by omega) rfl]
theorem turnO_line {l : List Edge} {t : Turn} {i : Nat} (hi : i < l.length) (hL : ∀ e, e ∈ l → Line e.line) : lenL ((turnO t l)[i]'(by rw [turnO_len]; exact hi)).line = lenL (cy l (if t.flip = true then l.length - i else i)).line := by
  rw [turnO_at hi]
  exact lenL_turn (hL _ (cy_mem (by omega) _)) t
theorem notches_comp {p : Piece} (hO : ∀ e, e ∈ p.edges → Line e.line) (hx : ∀ x, x ∈ p.notches → NotchOk p x) (a b : Turn) : notchesT b (turnP a p) = notchesT (compT a b) p := by
  have hn : (turnP a p).notches = notchesT a p := rfl
  have he : (turnP a p).edges = turnO a p.edges := rfl
  have ef : (compT a b).flip = !(a.flip == b.flip) := rfl
  unfold notchesT
  rw [ef, hn, he]
  unfold notchesT
  cases hb : b.flip with
  | false => cases a.flip <;> simp
  | true =>
    cases ha : a.flip with
    | false =>
      simp only [if_true, Bool.false_eq_true, if_false, beq_iff_eq, Bool.not_eq_true', beq_eq_false_iff_ne, ne_eq, not_false_eq_true, reduceCtorEq]
      refine List.map_congr_left fun x hxm => ?_
      obtain ⟨⟨e0, e1⟩, x0, x1⟩ := hx x hxm
      obtain ⟨i, hi⟩ : ∃ i : Nat, x.edge = i := ⟨x.edge.toNat, by omega⟩
      have hil : i < p.edges.length := by omega
      rw [hi, ai_get rfl hil] at x1
      have el := turnO_line (t := a) hil hO
      rw [ha] at el
      simp only [Bool.false_eq_true, if_false] at el
      rw [cy_lt hil] at el
      rw [mirr_eq hi hil x0 x1, mirr_eq hi (by rw [turnO_len]; exact hil) x0 (by rw [el]; exact x1), el]
      simp only [turnO_len]
    | true =>
      simp only [if_true, beq_self_eq_true, Bool.not_true, Bool.false_eq_true, if_false, List.map_map]
      conv => rhs; rw [← List.map_id p.notches]
      refine List.map_congr_left fun x hxm => ?_
      obtain ⟨⟨e0, e1⟩, x0, x1⟩ := hx x hxm
      obtain ⟨i, hi⟩ : ∃ i : Nat, x.edge = i := ⟨x.edge.toNat, by omega⟩
      have hil : i < p.edges.length := by omega
      rw [hi, ai_get rfl hil] at x1
      obtain ⟨fb1, fb2⟩ := flip_back hil
      have el := turnO_line (t := a) fb2 hO
      rw [ha] at el
      simp only [if_true] at el
      rw [← cy_mod, fb1, cy_lt hil] at el
      simp only [Function.comp]
      rw [mirr_eq hi hil x0 x1, mirr_eq (i := (p.edges.length - i) % p.edges.length) rfl (by rw [turnO_len]; exact fb2) (by simp only; omega) (by rw [el]; simp only; omega), el]
      simp only [turnO_len, fb1, id]
      cases x with
      | mk e t => simp only [Notch.mk.injEq] at hi ⊢; omega
theorem turn_comp {p : Piece} (hw : WP p) (hO : ∀ e, e ∈ p.edges → Line e.line) (h1 : p.widths.length = p.edges.length) (hx : ∀ x, x ∈ p.notches → NotchOk p x) (a b : Turn) : turnP b (turnP a p) = turnP (compT a b) p := by
  have := turnO_comp hw.1 a b
  have e : turnP b (turnP a p) = ⟨p.name, turnO b (turnO a p.edges), p.grain, notchesT b (turnP a p), cornersT b (turnP a p), widthsT b (turnP a p), p.match_⟩ := rfl
  rw [e, turnO_comp hw.1, notches_comp hO hx, corners_comp hw.2, widths_comp h1]; rfl
theorem app_none {t : Turn} (h1 : t.flip = false) (h2 : t.quarter % 4 = 0) (p : Spot) : app t p = p := by unfold app; rw [h2, h1]; rfl
theorem turn_none {t : Turn} (h1 : t.flip = false) (h2 : t.quarter % 4 = 0) (p : Piece) : turnP t p = p := by
  have ea : app t = id := funext fun s => app_none h1 h2 s
  have ep : ∀ l, polyT t l = l := fun l => by simp [polyT, h1, ea]
  have ee : turnE t = id := funext fun e => by simp [turnE, ep]
  have e1 : turnO t p.edges = p.edges := by simp [turnO, h1, ee]
  have e2 : cornersT t p = p.corners := by
    refine List.ext_getElem (cornersT_len t p) fun j j1 j2 => ?_
    simp [cornersT, cAt, cFrom, h1, ea, j2]
  simp [turnP, e1, e2, notchesT, widthsT, h1]
theorem turn_inv {p : Piece} (hw : WP p) (hO : ∀ e, e ∈ p.edges → Line e.line) (h1 : p.widths.length = p.edges.length) (hx : ∀ x, x ∈ p.notches → NotchOk p x) (a : Turn) : turnP (invT a) (turnP a p) = p := by
  rw [turn_comp hw hO h1 hx]
  refine turn_none ?_ ?_ p
  · show (!(a.flip == (invT a).flip)) = false
    rw [invT_flip]; simp
  · show ((if (invT a).flip = true then -(a.quarter % 4) else a.quarter % 4) + (invT a).quarter % 4) % 4 % 4 = 0
    rw [invT_flip]
    unfold invT
    split <;> dsimp only <;> omega
end Go.Ab
end
