/- Turns, as the program reckons them. -/
import Derived.Test.YtmdeiagmlabfmaaDoorDG12
set_option linter.unusedVariables false
set_option linter.unusedSimpArgs false
set_option linter.unusedSectionVars false

section
namespace Go.Ab
open Go.Proofs
set_option maxRecDepth 10000
set_option linter.unusedVariables false

/-- The negative, as the machine reckons it. -/
def ng (n : Int) : Int := IntKind.wrap .i64 (-n)
def fx (f : Bool) (s : Spot) : Spot := if f = true then ⟨ng s.x, s.y⟩ else s
def qt (q : Int) (s : Spot) : Spot := if q = 1 then ⟨ng s.y, s.x⟩ else if q = 2 then ⟨ng s.x, ng s.y⟩ else if q = 3 then ⟨s.y, ng s.x⟩ else s
/-- The image of a spot. -/
def app (t : Turn) (s : Spot) : Spot := qt (t.quarter % 4) (fx t.flip s)
theorem ret_apply (t : Turn) (s : Spot) (h : InR t.quarter) : Ret Tryd.prog XS 29 [.agg [boo t.flip, int t.quarter], .agg [int s.x, int s.y]] (.agg [int (app t s).x, int (app t s).y]) := by
  refine turn_Apply_W t s (app t s) ⟨fun hf => ⟨h, fun h1 => ?_, fun h1 => ⟨fun h2 => ?_, fun h2 => ⟨fun h3 => ?_, fun h3 => ?_⟩⟩⟩, fun hf => ⟨h, fun h1 => ?_, fun h1 => ⟨fun h2 => ?_, fun h2 => ⟨fun h3 => ?_, fun h3 => ?_⟩⟩⟩⟩
  all_goals simp [app, qt, fx, ng, hf, *]
/-- The image of a line. -/
def polyT (t : Turn) (p : List Spot) : List Spot := if t.flip = true then (p.map (app t)).reverse else p.map (app t)
theorem polyT_len (t : Turn) (p : List Spot) : (polyT t p).length = p.length := by unfold polyT; split <;> simp
theorem ret_poly (t : Turn) (p : List Spot) (h : InR t.quarter) (hn : p.length ≤ 1000000) : Ret Tryd.prog XS 31 [.agg [boo t.flip, int t.quarter], .sl 2 (p.map cSpot)] (.fr 2 ((polyT t p).map cSpot)) := by
  refine turn_Poly_W t p (polyT t p) (fun v w => 0 ≤ v ∧ v ≤ p.length ∧ w.length = p.length ∧ ∀ j : Nat, (h : j < p.length) → (j : Int) < v → w[if t.flip = true then p.length - 1 - j else j]? = some (app t p[j])) (fun v w => p.length - v.toNat)
    ⟨by omega, by omega, by omega, by omega, by omega, by simp, fun j _ hj => by omega⟩ ?_
  rintro v w ⟨h0, h1, hw, hj⟩
  obtain ⟨i, rfl⟩ : ∃ i : Nat, v = i := ⟨v.toNat, by omega⟩
  refine ⟨fun hlt => ?_, fun hge => ?_⟩
  · have hi : i < p.length := by omega
    rw [ai_get rfl hi]
    refine ⟨⟨h0, hlt⟩, fun hf => ⟨⟨by omega, by omega⟩, ⟨by omega, by omega⟩, _, ret_apply t _ h, ⟨by omega, by omega⟩, ⟨by omega, by omega⟩, ⟨by omega, by omega, by simpa using hw, fun j hjl hjv => ?_⟩, by dsimp only; omega⟩,
      fun hf => ⟨_, ret_apply t _ h, ⟨by omega, by omega⟩, ⟨by omega, by omega⟩, ⟨by omega, by omega, by simpa using hw, fun j hjl hjv => ?_⟩, by dsimp only; omega⟩⟩
    · rw [if_pos hf, List.getElem?_set]
      have := hj j hjl
      rw [if_pos hf] at this
      by_cases hji : j = i
      · subst hji; rw [if_pos (by omega), if_pos (by omega)]
      · rw [if_neg (by omega)]; exact this (by omega)
    · rw [if_neg (by simp [hf]), List.getElem?_set]
      have := hj j hjl
      rw [if_neg (by simp [hf])] at this
      by_cases hji : j = i
      · subst hji; rw [if_pos (by omega), if_pos (by omega)]
      · rw [if_neg (by omega)]; exact this (by omega)
  · refine List.ext_getElem? fun j => ?_
    by_cases hjl : j < p.length
    · unfold polyT
      split
      · rename_i hf
        have := hj (p.length - 1 - j) (by omega) (by omega)
        rw [if_pos hf, show p.length - 1 - (p.length - 1 - j) = j by omega] at this
        rw [this, List.getElem?_reverse (by simpa using hjl)]
        simp [show p.length - 1 - j < p.length by omega]
      · rename_i hf
        have := hj j hjl (by omega)
        rw [if_neg hf] at this
        rw [this]; simp [hjl]
    · rw [List.getElem?_eq_none (by rw [polyT_len]; omega), List.getElem?_eq_none (by omega)]
def turnE (t : Turn) (e : Edge) : Edge := ⟨e.name, polyT t e.line⟩
/-- A list whose first element stays, and whose others are turned round. -/
def rev1 {α : Type} : List α → List α
  | [] => []
  | x :: r => x :: r.reverse
theorem rev1_len {α : Type} (l : List α) : (rev1 l).length = l.length := by cases l <;> simp [rev1]
/-- The image of an outline. -/
def turnO (t : Turn) (l : List Edge) : List Edge := if t.flip = true then rev1 (l.map (turnE t)) else l.map (turnE t)
theorem turnO_len (t : Turn) (l : List Edge) : (turnO t l).length = l.length := by unfold turnO; split <;> simp [rev1_len]
theorem turnd_rev1 {α : Type} {l : List α} (h : 1 < l.length) : turnd l 1 (l.length - 1) = rev1 l := by
  match l, h with
  | x :: r, _ => simp [turnd, rev1]; omega
theorem ret_oturned (t : Turn) (l : List Edge) (h : InR t.quarter) (hn : l.length ≤ 1000000) (hl : ∀ e, e ∈ l → e.line.length ≤ 1000000) : Ret Tryd.prog XS 14 [.sl 2 (l.map cEdge), .agg [boo t.flip, int t.quarter]] (.fr 2 ((turnO t l).map cEdge)) := by
  refine outline_Turned_W l t (turnO t l) (fun o v => 0 ≤ v ∧ v ≤ l.length ∧ o = (l.take v.toNat).map (turnE t)) (fun o v => l.length - v.toNat) ⟨by omega, by omega, by omega, by omega, by omega, by simp⟩ ?_
  rintro o v ⟨h0, h1, rfl⟩
  obtain ⟨i, rfl⟩ : ∃ i : Nat, v = i := ⟨v.toNat, by omega⟩
  refine ⟨fun hlt => ?_, fun hge => ?_⟩
  · have hi : i < l.length := by omega
    rw [ai_get rfl hi]
    have e : (l.take (i : Int).toNat).map (turnE t) ++ [(⟨l[i].name, polyT t l[i].line⟩ : Edge)] = (l.take ((i : Int) + 1).toNat).map (turnE t) := by
      rw [show ((i : Int) + 1).toNat = i + 1 by omega, show (i : Int).toNat = i from rfl, List.take_add_one, List.map_append]
      simp [hi, turnE]
    refine ⟨⟨h0, hlt⟩, _, ret_poly t _ h (hl _ (List.getElem_mem hi)), ?_, ⟨by omega, by omega⟩, ⟨by omega, by omega, e⟩, by dsimp only; omega⟩
    rw [e]; simp only [Cap, List.length_map, List.length_take]; omega
  · have e : (l.take (i : Int).toNat).map (turnE t) = l.map (turnE t) := by rw [List.take_of_length_le (by omega)]
    rw [e]
    refine ⟨fun hf => ⟨fun h2 => ⟨⟨by omega, h2⟩, ⟨by omega, by omega, by rw [List.length_map] at h2 ⊢; omega⟩, ?_⟩, fun h2 => ?_⟩, fun hf => by simp [turnO, hf]⟩
    · rw [turnO, if_pos hf, ← turnd_rev1 (by omega), show ((((l.map (turnE t)).length : Nat) : Int) - 1).toNat = (l.map (turnE t)).length - 1 by omega]; rfl
    · rw [turnO, if_pos hf]
      generalize l.map (turnE t) = x at h2 ⊢
      match x, h2 with
      | [], _ => rfl
      | [_], _ => rfl
      | _ :: _ :: _, h2 => simp at h2; omega
end Go.Ab
end

section
namespace Go.Ab
open Go.Proofs
set_option maxRecDepth 10000
set_option linter.unusedVariables false

theorem list_range {α : Type} {w : List α} {n : Nat} {f : Nat → α} (hl : w.length = n) (h : ∀ j, j < n → w[j]? = some (f j)) : w = (List.range n).map f := by
  refine List.ext_getElem? fun j => ?_
  by_cases hj : j < n
  · rw [h j hj]; simp [hj]
  · rw [List.getElem?_eq_none (by omega), List.getElem?_eq_none (by simp; omega)]
theorem set_at {α : Type} {w : List α} {i j : Nat} {a : α} {b : Option α} (hi : i < w.length) (he : j = i → b = some a) (hn : j ≠ i → w[j]? = b) : (w.set ((i : Int)).toNat a)[j]? = b := by
  rw [show ((i : Int)).toNat = i from rfl, List.getElem?_set]
  by_cases h : i = j
  · rw [if_pos h, if_pos hi, he h.symm]
  · rw [if_neg h, hn (fun e => h e.symm)]
/-- The length of a line, 0 where it is none. -/
noncomputable def lenL (l : List Spot) : Int := if check l = 0 then total l else 0
theorem lenL_range (l : List Spot) : 0 ≤ lenL l ∧ lenL l ≤ 118632832040 := by
  unfold lenL
  split
  · rename_i h
    have hl := check_zero.1 h
    have := hl.two
    exact upTo_range' hl (i := (l.length : Int) - 1) (by omega) (by omega)
  · omega
noncomputable def mirr (l : List Edge) (x : Notch) : Notch :=
  if x.edge < 0 ∨ (l.length : Int) ≤ x.edge then x else ⟨((l.length : Int) - x.edge).tmod l.length, if 0 ≤ x.at_ ∧ x.at_ ≤ lenL (ai l x.edge).line then lenL (ai l x.edge).line - x.at_ else 0⟩
theorem ret_mirrored (l : List Edge) (x : Notch) (hn : l.length ≤ 1000000) : Ret Tryd.prog XS 30 [.sl 2 (l.map cEdge), .agg [int x.edge, int x.at_]] (.agg [int (mirr l x).edge, int (mirr l x).at_]) := by
  refine grade_mirrored_W l x (mirr l x) ⟨fun h => by rw [mirr, if_pos (.inl h)], fun h => ⟨fun h2 => by rw [mirr, if_pos (.inr (by omega))], fun h2 => ?_⟩⟩
  have hr := lenL_range (ai l x.edge).line
  have e : mirr l x = ⟨((l.length : Int) - x.edge).tmod l.length, if 0 ≤ x.at_ ∧ x.at_ ≤ lenL (ai l x.edge).line then lenL (ai l x.edge).line - x.at_ else 0⟩ := if_neg (by omega)
  refine ⟨⟨by omega, by omega⟩, _, _, ret_length _, fun h3 => ⟨fun h4 => ?_, fun h4 => ?_⟩, fun h3 => ?_⟩
  · have h4 : x.at_ ≤ lenL (ai l x.edge).line := h4
    refine ⟨?_, ⟨by omega, by omega⟩, by omega, ?_⟩
    · show InR (lenL (ai l x.edge).line - x.at_); exact ⟨by omega, by omega⟩
    · rw [e, if_pos ⟨h3, h4⟩]; rfl
  · have h4 : ¬ x.at_ ≤ lenL (ai l x.edge).line := h4
    exact ⟨⟨by omega, by omega⟩, by omega, by rw [e, if_neg (fun h => h4 h.2)]⟩
  · exact ⟨⟨by omega, by omega⟩, by omega, by rw [e, if_neg (fun h => h3 h.1)]⟩
def cFrom (t : Turn) (p : Piece) (j : Nat) : Nat := if t.flip = true ∧ p.corners.length = p.edges.length then (p.edges.length - j + 1) % p.edges.length else j
def cAt (t : Turn) (p : Piece) (j : Nat) : Spot := app t ((p.corners[cFrom t p j]?).getD default)
def cornersT (t : Turn) (p : Piece) : List Spot := (List.range p.corners.length).map (cAt t p)
def wAt (p : Piece) (j : Nat) : Int := (p.widths[(p.edges.length - j) % p.edges.length]?).getD default
def widthsT (t : Turn) (p : Piece) : List Int := if t.flip = true ∧ p.widths.length = p.edges.length then (List.range p.widths.length).map (wAt p) else p.widths
noncomputable def notchesT (t : Turn) (p : Piece) : List Notch := if t.flip = true then p.notches.map (mirr p.edges) else p.notches
/-- The image of a piece. -/
noncomputable def turnP (t : Turn) (p : Piece) : Piece := ⟨p.name, turnO t p.edges, p.grain, notchesT t p, cornersT t p, widthsT t p, p.match_⟩
theorem ret_gturned (p : Piece) (t : Turn) (h : InR t.quarter) (hn : p.edges.length ≤ 1000000) (hl : ∀ e, e ∈ p.edges → e.line.length ≤ 1000000) (hc : p.corners.length ≤ 1000000) (hw : p.widths.length ≤ 1000000) (hx : p.notches.length ≤ 1000000) :
    Ret Tryd.prog XS 12 [.agg [str p.name, .sl 2 (p.edges.map cEdge), int p.grain, .sl 2 (p.notches.map cNotch), .sl 2 (p.corners.map cSpot), .sl 1 (p.widths.map cI), boo p.match_], .agg [boo t.flip, int t.quarter]]
      (.agg [str (turnP t p).name, .fr 2 ((turnP t p).edges.map cEdge), int (turnP t p).grain, .fr 2 ((turnP t p).notches.map cNotch), .fr 2 ((turnP t p).corners.map cSpot), .fr 1 ((turnP t p).widths.map cI), boo (turnP t p).match_]) := by
  refine grade_Turned_W p t (turnP t p)
    (fun l v w => l = turnO t p.edges ∧ 0 ≤ v ∧ v ≤ p.corners.length ∧ w.length = p.corners.length ∧ ∀ j : Nat, (j : Int) < v → w[j]? = some (cAt t p j)) (fun l v w => p.corners.length - v.toNat)
    (fun l c v w => l = turnO t p.edges ∧ c = cornersT t p ∧ t.flip = true ∧ p.widths.length = p.edges.length ∧ 0 ≤ v ∧ v ≤ p.widths.length ∧ w.length = p.widths.length ∧ ∀ j : Nat, (j : Int) < v → w[j]? = some (wAt p j)) (fun l c v w => p.widths.length - v.toNat)
    (fun l c v w w' => l = turnO t p.edges ∧ c = cornersT t p ∧ t.flip = true ∧ w' = widthsT t p ∧ 0 ≤ v ∧ v ≤ p.notches.length ∧ w.length = p.notches.length ∧ ∀ j : Nat, (h : j < p.notches.length) → (j : Int) < v → w[j]? = some (mirr p.edges p.notches[j])) (fun l c v w w' => p.notches.length - v.toNat)
    ⟨_, ret_oturned t _ h hn hl, by omega, by omega, by omega, rfl, by omega, by omega, by simp, fun j hj => by omega⟩ ?_ ?_ ?_
  · rintro l v w ⟨rfl, h0, h1, hwl, hj⟩
    obtain ⟨i, rfl⟩ : ∃ i : Nat, v = i := ⟨v.toNat, by omega⟩
    refine ⟨fun hlt => ?_, fun hge => ?_⟩
    · have hi : i < p.corners.length := by omega
      have plain : cFrom t p i = i → (Idx (i : Int) p.corners.length) ∧ (∃ (a1 : Spot), Ret Tryd.prog XS 29 [.agg [boo t.flip, int t.quarter], .agg [int ((ai p.corners (i : Int)).x), int ((ai p.corners (i : Int)).y)]] (.agg [int a1.x, int a1.y]) ∧ (Idx (i : Int) w.length) ∧ (InR ((i : Int) + 1)) ∧
          (turnO t p.edges = turnO t p.edges ∧ 0 ≤ (i : Int) + 1 ∧ (i : Int) + 1 ≤ p.corners.length ∧ (w.set ((i : Int)).toNat a1).length = p.corners.length ∧ ∀ j : Nat, (j : Int) < (i : Int) + 1 → (w.set ((i : Int)).toNat a1)[j]? = some (cAt t p j)) ∧ p.corners.length - ((i : Int) + 1).toNat < p.corners.length - ((i : Int)).toNat) := fun hc0 => by
        rw [ai_get rfl hi]
        refine ⟨⟨h0, hlt⟩, _, ret_apply t _ h, ⟨by omega, by omega⟩, ⟨by omega, by omega⟩, ⟨rfl, by omega, by omega, by simpa using hwl, fun j hjv => set_at (by omega) (fun e => ?_) (fun e => hj j (by omega))⟩, by omega⟩
        subst e
        rw [cAt, hc0, List.getElem?_eq_getElem hi]; rfl
      refine ⟨fun hf => ⟨fun hq => ?_, fun hq => plain (if_neg (by omega))⟩, fun hf => plain (if_neg (by simp [hf]))⟩
      have hq' : p.corners.length = p.edges.length := by omega
      have hk : (p.edges.length - i + 1) % p.edges.length < p.corners.length := by rw [hq']; exact Nat.mod_lt _ (by omega)
      have et : (((p.edges.length : Nat) : Int) - i + 1).tmod ((p.edges.length : Nat) : Int) = (((p.edges.length - i + 1) % p.edges.length : Nat) : Int) := tmod_nat (by omega) rfl
      rw [et, ai_get rfl hk]
      refine ⟨⟨by omega, by omega⟩, ⟨by omega, by omega⟩, by omega, ⟨by omega, by omega⟩, _, ret_apply t _ h, ⟨by omega, by omega⟩, ⟨by omega, by omega⟩, ⟨rfl, by omega, by omega, by simpa using hwl, fun j hjv => set_at (by omega) (fun e => ?_) (fun e => hj j (by omega))⟩, by dsimp only; omega⟩
      subst e
      rw [cAt, show cFrom t p j = (p.edges.length - j + 1) % p.edges.length from if_pos ⟨hf, hq'⟩, List.getElem?_eq_getElem hk]; rfl
    · have ew : w = cornersT t p := list_range hwl fun j hjn => hj j (by omega)
      simp only [List.nil_append]
      refine ⟨by simp only [Cap]; omega, by simp only [Cap]; omega, fun hf => ⟨fun hq => ⟨by trivial, ew, hf, by omega, by omega, by omega, by trivial, fun j hj => by omega⟩, fun hq => ⟨by trivial, ew, hf, ?_, by omega, by omega, by trivial, fun j _ hj => by omega⟩⟩, fun hf => ?_⟩
      · rw [widthsT, if_neg (by omega)]
      · simp [turnP, notchesT, widthsT, hf, ew]
  · rintro l c v w ⟨rfl, rfl, hf, hq, h0, h1, hwl, hj⟩
    obtain ⟨i, rfl⟩ : ∃ i : Nat, v = i := ⟨v.toNat, by omega⟩
    refine ⟨fun hlt => ?_, fun hge => ?_⟩
    · replace hlt : (i : Int) < p.widths.length := hlt
      have hk : (p.edges.length - i) % p.edges.length < p.widths.length := by rw [hq]; exact Nat.mod_lt _ (by omega)
      have et : (((p.edges.length : Nat) : Int) - i).tmod ((p.edges.length : Nat) : Int) = (((p.edges.length - i) % p.edges.length : Nat) : Int) := tmod_nat (by omega) rfl
      rw [et, ai_get rfl hk]
      refine ⟨⟨by omega, by omega⟩, by omega, ⟨by omega, by omega⟩, ⟨by omega, by omega⟩, ⟨by omega, by omega⟩, ⟨rfl, rfl, hf, hq, by omega, by omega, by simpa using hwl, fun j hjv => set_at (by omega) (fun e => ?_) (fun e => hj j (by omega))⟩, by dsimp only; omega⟩
      subst e
      rw [wAt, List.getElem?_eq_getElem hk]; rfl
    · replace hge : ¬ (i : Int) < p.widths.length := hge
      have ew : w = widthsT t p := by rw [widthsT, if_pos ⟨hf, hq⟩]; exact list_range hwl fun j hjn => hj j (by omega)
      exact ⟨rfl, rfl, hf, ew, by omega, by omega, rfl, fun j _ hj => by omega⟩
  · rintro l c v w w' ⟨rfl, rfl, hf, rfl, h0, h1, hwl, hj⟩
    obtain ⟨i, rfl⟩ : ∃ i : Nat, v = i := ⟨v.toNat, by omega⟩
    refine ⟨fun hlt => ?_, fun hge => ?_⟩
    · have hi : i < p.notches.length := by omega
      rw [ai_get rfl hi]
      refine ⟨⟨h0, hlt⟩, _, ret_mirrored p.edges _ hn, ⟨by omega, by omega⟩, ⟨by omega, by omega⟩, ⟨rfl, rfl, hf, rfl, by omega, by omega, by simpa using hwl, fun j hjl hjv => set_at (by omega) (fun e => by subst e; rfl) (fun e => hj j hjl (by omega))⟩, by dsimp only; omega⟩
    · have ew : w = p.notches.map (mirr p.edges) := by
        refine List.ext_getElem? fun j => ?_
        by_cases hjl : j < p.notches.length
        · rw [hj j hjl (by omega)]; simp [hjl]
        · rw [List.getElem?_eq_none (by omega), List.getElem?_eq_none (by simp; omega)]
      simp [turnP, notchesT, hf, ew]
end Go.Ab
end

section
namespace Go.Ab
open Go.Proofs
set_option maxRecDepth 10000
set_option linter.unusedVariables false

theorem ng_in {n : Int} (h : InR n) (h2 : n ≠ -9223372036854775808) : ng n = -n := wi64 ⟨by omega, by omega⟩
theorem ng_eq {n : Int} (h : InR n) : ng n = if n = -9223372036854775808 then n else -n := by
  split
  · rename_i e; subst e; rfl
  · rename_i e; exact ng_in h e
theorem ng_range {n : Int} (h : InR n) : InR (ng n) := by rw [ng_eq h]; split <;> exact ⟨by omega, by omega⟩
theorem ng_ng {n : Int} (h : InR n) : ng (ng n) = n := by
  by_cases e : n = -9223372036854775808
  · subst e; rfl
  · rw [ng_in h e, ng_in ⟨by have := h.1; omega, by have := h.1; omega⟩ (by have := h.2; omega)]; omega
def Wd (p : Spot) : Prop := InR p.x ∧ InR p.y
theorem Wd.fx {p : Spot} (h : Wd p) (f : Bool) : Wd (fx f p) := by unfold Go.Ab.fx; split; exact ⟨ng_range h.1, h.2⟩; exact h
theorem Wd.qt {p : Spot} (h : Wd p) (q : Int) : Wd (qt q p) := by
  unfold Go.Ab.qt
  split
  · exact ⟨ng_range h.2, h.1⟩
  · split
    · exact ⟨ng_range h.1, ng_range h.2⟩
    · split
      · exact ⟨h.2, ng_range h.1⟩
      · exact h
theorem Wd.app {p : Spot} (h : Wd p) (t : Turn) : Wd (app t p) := (h.fx _).qt _
theorem q4 (q : Int) : q % 4 = 0 ∨ q % 4 = 1 ∨ q % 4 = 2 ∨ q % 4 = 3 := by omega
theorem qt_qt {p : Spot} (h : Wd p) (q r : Int) : qt (r % 4) (qt (q % 4) p) = qt ((q % 4 + r % 4) % 4) p := by
  have e1 := ng_ng h.1
  have e2 := ng_ng h.2
  obtain ⟨x, y⟩ := p
  rcases q4 q with e | e | e | e <;> rcases q4 r with e' | e' | e' | e' <;> rw [e, e'] <;> simp [qt] <;> simp_all
theorem fx_qt {p : Spot} (h : Wd p) (q : Int) : fx true (qt (q % 4) p) = qt ((-(q % 4)) % 4) (fx true p) := by
  have e1 := ng_ng h.1
  have e2 := ng_ng h.2
  obtain ⟨x, y⟩ := p
  rcases q4 q with e | e | e | e <;> rw [e] <;> simp [qt, fx] <;> simp_all
theorem fx_fx {p : Spot} (h : Wd p) : fx true (fx true p) = p := by
  have e1 := ng_ng h.1
  obtain ⟨x, y⟩ := p
  simp_all [fx]
/-- The turn a, and then b. -/
def compT (a b : Turn) : Turn := ⟨!(a.flip == b.flip), ((if b.flip = true then -(a.quarter % 4) else a.quarter % 4) + b.quarter % 4) % 4⟩
def invT (t : Turn) : Turn := if t.flip = true then ⟨t.flip, t.quarter % 4⟩ else ⟨false, (-(t.quarter % 4)) % 4⟩
theorem app_comp {p : Spot} (h : Wd p) (a b : Turn) : app b (app a p) = app (compT a b) p := by
  unfold app compT
  cases hb : b.flip with
  | false =>
    rw [show fx false (qt (a.quarter % 4) (fx a.flip p)) = qt (a.quarter % 4) (fx a.flip p) from rfl, qt_qt (h.fx _)]
    have e : (!(a.flip == false)) = a.flip := by cases a.flip <;> rfl
    simp only [e, Bool.false_eq_true, if_false]
    rw [Int.emod_emod_of_dvd _ (by decide)]
  | true =>
    rw [fx_qt (h.fx _), qt_qt ((h.fx _).fx _)]
    simp only [if_true]
    have e : ((-(a.quarter % 4)) % 4 + b.quarter % 4) % 4 = (-(a.quarter % 4) + b.quarter % 4) % 4 % 4 := by omega
    rw [e]
    cases a.flip with
    | false => rfl
    | true => rw [fx_fx h]; rfl
theorem app_inv {p : Spot} (h : Wd p) (t : Turn) : app (invT t) (app t p) = p := by
  rw [app_comp h]
  unfold compT invT app
  cases ht : t.flip with
  | false =>
    simp only [Bool.false_eq_true, if_false]
    rw [show ((t.quarter % 4 + (-(t.quarter % 4)) % 4 % 4) % 4 % 4) = 0 by omega]; rfl
  | true =>
    simp only [if_true]
    rw [show ((-(t.quarter % 4) + t.quarter % 4 % 4) % 4 % 4) = 0 by omega]; rfl

/-! Without the machine's edges. -/
def fl (p : Spot) : Spot := ⟨-p.x, p.y⟩
def ro (p : Spot) : Spot := ⟨-p.y, p.x⟩
def lin (t : Turn) (p : Spot) : Spot :=
  let p' := if t.flip = true then fl p else p
  if t.quarter % 4 = 1 then ro p' else if t.quarter % 4 = 2 then ro (ro p') else if t.quarter % 4 = 3 then ro (ro (ro p')) else p'
def Mild (p : Spot) : Prop := (-9223372036854775807 ≤ p.x ∧ p.x ≤ 9223372036854775807) ∧ -9223372036854775807 ≤ p.y ∧ p.y ≤ 9223372036854775807
theorem G.mild {p : Spot} (h : G p) : Mild p := by obtain ⟨⟨a, b⟩, c, d⟩ := h; exact ⟨⟨by omega, by omega⟩, by omega, by omega⟩
theorem app_lin {p : Spot} (h : Mild p) (t : Turn) : app t p = lin t p := by
  obtain ⟨⟨a, b⟩, c, d⟩ := h
  have e1 : ng p.x = -p.x := ng_in ⟨by omega, by omega⟩ (by omega)
  have e2 : ng p.y = -p.y := ng_in ⟨by omega, by omega⟩ (by omega)
  have e3 : ng (-p.x) = p.x := by rw [ng_in ⟨by omega, by omega⟩ (by omega)]; omega
  unfold app lin
  cases t.flip <;> rcases q4 t.quarter with e | e | e | e <;> rw [e] <;> simp [fx, qt, fl, ro, e1, e2, e3]
def cr (a b : Spot) : Int := a.x * b.y - a.y * b.x
/-- What a turn keeps. -/
structure Iso (φ : Spot → Spot) (σ : Int) : Prop where
  sg : σ = 1 ∨ σ = -1
  g : ∀ p, G p → G (φ p)
  inj : ∀ p q, φ p = φ q → p = q
  tn : ∀ a b c, tn (φ a) (φ b) (φ c) = σ * tn a b c
  wi : ∀ a b q, (wi (φ q).x (φ a).x (φ b).x && wi (φ q).y (φ a).y (φ b).y) = (wi q.x a.x b.x && wi q.y a.y b.y)
  sq : ∀ a b, sq (φ a) (φ b) = sq a b
  cr : ∀ a b, cr (φ a) (φ b) = σ * cr a b
  add : ∀ p q, φ ⟨p.x + q.x, p.y + q.y⟩ = ⟨(φ p).x + (φ q).x, (φ p).y + (φ q).y⟩
  mul : ∀ m p, φ ⟨m * p.x, m * p.y⟩ = ⟨m * (φ p).x, m * (φ p).y⟩
  shl : ∀ (n k : Nat) a b, φ ⟨sh n k a.x b.x, sh n k a.y b.y⟩ = ⟨sh n k (φ a).x (φ b).x, sh n k (φ a).y (φ b).y⟩
  sm : ∀ p, shifted p = true → shifted (φ p) = true
theorem shr_neg (n s : Int) : shr (-n) s = -shr n s := by
  unfold shr
  by_cases h : n < 0
  · rw [if_neg (by omega), if_pos h, Int.neg_neg]
  · by_cases h0 : n = 0
    · subst h0
      simp only [Int.neg_zero, Int.lt_irrefl, if_false, Int.mul_zero, Int.zero_add]
      by_cases hs : s = 0
      · subst hs; rfl
      · have : s.tdiv (2 * s) = 0 := by
          rcases Int.lt_or_gt_of_ne hs with h | h
          · rw [show s = -(-s) by omega, Int.mul_neg, Int.neg_tdiv, Int.tdiv_neg, Int.neg_neg, Int.tdiv_eq_zero_of_lt (by omega) (by omega)]
          · exact Int.tdiv_eq_zero_of_lt (by omega) (by omega)
        omega
    · rw [if_pos (by omega), if_neg h, Int.neg_neg]
theorem sh_neg (n k : Nat) (a b : Int) : sh n k (-a) (-b) = -sh n k a b := by
  unfold sh
  rw [← shr_neg, Int.mul_neg, Int.mul_neg]
  congr 1; omega
theorem wi_neg (n a b : Int) : Go.Ab.wi (-n) (-a) (-b) = Go.Ab.wi n a b := by
  unfold Go.Ab.wi
  rw [Bool.eq_iff_iff]
  simp only [Bool.and_eq_true, decide_eq_true_eq]
  omega
theorem iso_fl : Iso fl (-1) where
  sg := .inr rfl
  g := by rintro p ⟨⟨a, b⟩, c, d⟩; exact ⟨⟨by simp only [fl]; omega, by simp only [fl]; omega⟩, c, d⟩
  inj := by rintro ⟨a, b⟩ ⟨c, d⟩ h; simp only [fl, Spot.mk.injEq] at h ⊢; omega
  tn := by
    intro a b c
    simp only [fl, Go.Ab.tn]
    rw [show -b.x - -a.x = -(b.x - a.x) by omega, show -c.x - -b.x = -(c.x - b.x) by omega, Int.neg_mul, Int.mul_neg]; omega
  wi := by intro a b q; simp only [fl, wi_neg]
  sq := by
    intro a b
    simp only [fl, Go.Ab.sq]
    rw [show -b.x - -a.x = -(b.x - a.x) by omega, Int.neg_mul_neg]
  cr := by intro a b; simp only [fl, Go.Ab.cr, Int.neg_mul, Int.mul_neg]; omega
  add := by intro p q; simp only [fl, Spot.mk.injEq]; exact ⟨by omega, trivial⟩
  mul := by intro m p; simp only [fl, Int.mul_neg]
  shl := by intro n k a b; simp only [fl, sh_neg]
  sm := by intro p h; simp only [shifted, small, Bool.and_eq_true, decide_eq_true_eq] at h ⊢; dsimp only [fl]; omega
theorem iso_ro : Iso ro 1 where
  sg := .inl rfl
  g := by rintro p ⟨⟨a, b⟩, c, d⟩; exact ⟨⟨by simp only [ro]; omega, by simp only [ro]; omega⟩, a, b⟩
  inj := by rintro ⟨a, b⟩ ⟨c, d⟩ h; simp only [ro, Spot.mk.injEq] at h ⊢; omega
  tn := by
    intro a b c
    simp only [ro, Go.Ab.tn]
    rw [show -b.y - -a.y = -(b.y - a.y) by omega, show -c.y - -b.y = -(c.y - b.y) by omega, Int.neg_mul, Int.mul_neg]; omega
  wi := by intro a b q; simp only [ro, wi_neg]; rw [Bool.and_comm]
  sq := by
    intro a b
    simp only [ro, Go.Ab.sq]
    rw [show -b.y - -a.y = -(b.y - a.y) by omega, Int.neg_mul_neg]; omega
  cr := by intro a b; simp only [ro, Go.Ab.cr, Int.neg_mul, Int.mul_neg]; rw [Int.mul_comm a.y b.x, Int.mul_comm a.x b.y]; have := Int.mul_comm a.x b.y; have := Int.mul_comm a.y b.x; omega
  add := by intro p q; simp only [ro, Spot.mk.injEq]; exact ⟨by omega, trivial⟩
  mul := by intro m p; simp only [ro, Int.mul_neg]
  shl := by intro n k a b; simp only [ro, sh_neg]
  sm := by intro p h; simp only [shifted, small, Bool.and_eq_true, decide_eq_true_eq] at h ⊢; dsimp only [ro]; omega
theorem Iso.comp {φ ψ : Spot → Spot} {σ τ : Int} (h : Iso φ σ) (k : Iso ψ τ) : Iso (fun p => ψ (φ p)) (τ * σ) where
  sg := by rcases h.sg with e | e <;> rcases k.sg with e' | e' <;> subst e e' <;> decide
  g := fun p hp => k.g _ (h.g _ hp)
  inj := fun p q e => h.inj _ _ (k.inj _ _ e)
  tn := fun a b c => by rw [k.tn, h.tn, Int.mul_assoc]
  wi := fun a b q => by rw [k.wi, h.wi]
  sq := fun a b => by rw [k.sq, h.sq]
  cr := fun a b => by rw [k.cr, h.cr, Int.mul_assoc]
  add := fun p q => by rw [h.add, k.add]
  mul := fun m p => by rw [h.mul, k.mul]
  shl := fun n i a b => by rw [h.shl, k.shl]
  sm := fun p hp => k.sm _ (h.sm _ hp)
theorem iso_id : Iso (fun p => p) 1 where
  sg := .inl rfl
  g := fun p h => h
  inj := fun p q e => e
  tn := fun a b c => by omega
  wi := fun a b q => rfl
  sq := fun a b => rfl
  cr := fun a b => by omega
  add := fun p q => rfl
  mul := fun m p => rfl
  shl := fun n i a b => rfl
  sm := fun p hp => hp
def sgn (t : Turn) : Int := if t.flip = true then -1 else 1
theorem iso_lin (t : Turn) : Iso (lin t) (sgn t) := by
  have h0 : Iso (fun p => if t.flip = true then fl p else p) (sgn t) := by
    unfold sgn
    cases t.flip with
    | true => exact iso_fl
    | false => exact iso_id
  have r1 := h0.comp iso_ro
  have r2 := r1.comp iso_ro
  have r3 := r2.comp iso_ro
  simp only [Int.one_mul] at r1 r2 r3
  unfold lin
  rcases q4 t.quarter with e | e | e | e <;> rw [e]
  · exact h0
  · exact r1
  · exact r2
  · exact r3
theorem Iso.hold {φ : Spot → Spot} {σ : Int} (h : Iso φ σ) (a b q : Spot) : hold (φ a) (φ b) (φ q) = hold a b q := by
  unfold Go.Ab.hold
  rw [h.wi, h.tn]
  congr 1
  rw [decide_eq_decide]
  rcases h.sg with e | e <;> subst e <;> omega
theorem Iso.divi {φ : Spot → Spot} {σ : Int} (h : Iso φ σ) (a b p q : Spot) : divi (φ a) (φ b) (φ p) (φ q) = divi a b p q := by
  unfold Go.Ab.divi
  rw [h.tn, h.tn, Bool.eq_iff_iff]
  simp only [Bool.or_eq_true, Bool.and_eq_true, decide_eq_true_eq]
  rcases h.sg with e | e <;> subst e <;> omega
theorem Iso.meet {φ : Spot → Spot} {σ : Int} (h : Iso φ σ) (a b c d : Spot) : meet (φ a) (φ b) (φ c) (φ d) = meet a b c d := by
  unfold Go.Ab.meet
  rw [h.hold, h.hold, h.hold, h.hold, h.divi, h.divi]
end Go.Ab
end
