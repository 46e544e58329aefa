/- The law GradeComposes. -/
import Derived.Test.YtmdeiagmlabfmaaDoorDT11
import Derived.Test.YtmdeiagmlabfmaaDoorDLComposesW
set_option linter.unusedVariables false
set_option linter.unusedSimpArgs false
set_option linter.unusedSectionVars false

namespace Go.Ab
open Go.Proofs
set_option maxRecDepth 10000
set_option linter.unusedVariables false

theorem ret_norm (t : Turn) (h : InR t.quarter) : Ret Tryd.prog XS 40 [.agg [boo t.flip, int t.quarter]] (.agg [boo t.flip, int (t.quarter % 4)]) := turn_Norm_W t ⟨t.flip, t.quarter % 4⟩ ⟨h, rfl⟩
theorem ret_compose (a b : Turn) (ha : InR a.quarter) (hb : InR b.quarter) : Ret Tryd.prog XS 22 [.agg [boo a.flip, int a.quarter], .agg [boo b.flip, int b.quarter]] (.agg [boo (compT a b).flip, int (compT a b).quarter]) := by
  refine turn_Compose_W a b (compT a b) ⟨ha, fun h => ⟨⟨by omega, by omega⟩, hb, ⟨by omega, by omega⟩, ⟨!(a.flip == b.flip), (-(a.quarter % 4) + b.quarter % 4) % 4⟩, ret_norm ⟨!(a.flip == b.flip), -(a.quarter % 4) + b.quarter % 4⟩ ⟨by dsimp only; omega, by dsimp only; omega⟩, ?_⟩,
    fun h => ⟨hb, ⟨by omega, by omega⟩, ⟨!(a.flip == b.flip), (a.quarter % 4 + b.quarter % 4) % 4⟩, ret_norm ⟨!(a.flip == b.flip), a.quarter % 4 + b.quarter % 4⟩ ⟨by dsimp only; omega, by dsimp only; omega⟩, ?_⟩⟩
  · simp [compT, h]
  · simp [compT, h]
theorem ret_inverse (t : Turn) (ht : InR t.quarter) : Ret Tryd.prog XS 23 [.agg [boo t.flip, int t.quarter]] (.agg [boo (invT t).flip, int (invT t).quarter]) := by
  refine turn_Inverse_W t (invT t) ⟨fun h => ⟨⟨t.flip, t.quarter % 4⟩, ret_norm t ht, ?_⟩, fun h => ⟨ht, ⟨by omega, by omega⟩, ⟨false, (-(t.quarter % 4)) % 4⟩, ret_norm ⟨false, -(t.quarter % 4)⟩ ⟨by dsimp only; omega, by dsimp only; omega⟩, ?_⟩⟩
  · simp [invT, h]
  · simp [invT, h]
theorem piece_eq {p q : Piece} (h1 : p.name = q.name) (h2 : p.edges = q.edges) (h3 : p.grain = q.grain) (h4 : p.notches = q.notches) (h5 : p.corners = q.corners) (h6 : p.widths = q.widths) (h7 : p.match_ = q.match_) : p = q := by
  cases p; cases q; simp_all
theorem ret_sameP (p q : Piece) (h1 : p.edges.length ≤ 1000000) (h2 : ∀ e, e ∈ p.edges → e.line.length ≤ 1000000) (h3 : p.corners.length ≤ 1000000) (h4 : p.widths.length ≤ 1000000) (h5 : p.notches.length ≤ 1000000) :
    Ret Tryd.prog XS 21 [.agg [str p.name, .sl 2 (p.edges.map cEdge), int p.grain, .sl 2 (p.notches.map cNotch), .sl 2 (p.corners.map cSpot), .sl 1 (p.widths.map cI), boo p.match_], .agg [str q.name, .sl 2 (q.edges.map cEdge), int q.grain, .sl 2 (q.notches.map cNotch), .sl 2 (q.corners.map cSpot), .sl 1 (q.widths.map cI), boo q.match_]] (boo (decide (p = q))) := by
  have no : ∀ {x y : Piece → Prop}, True := fun {_ _} => trivial
  refine garmentref21_Same_W p q _ (fun v => p.name = q.name ∧ p.grain = q.grain ∧ p.match_ = q.match_ ∧ p.notches.length = q.notches.length ∧ 0 ≤ v ∧ v ≤ p.notches.length ∧ ∀ j : Nat, (j : Int) < v → ai p.notches (j : Int) = ai q.notches (j : Int)) (fun v => p.notches.length - v.toNat)
    ⟨fun a => ⟨fun b => ⟨fun c => ⟨fun d => ⟨a, b, c, by omega, by omega, by omega, fun j hj => by omega⟩, fun d => ?_⟩, fun c => ?_⟩, fun b => ?_⟩, fun a => ?_⟩ ?_
  · rw [decide_eq_false]; rintro rfl; exact d rfl
  · rw [decide_eq_false]; rintro rfl; exact c rfl
  · rw [decide_eq_false]; rintro rfl; exact b rfl
  · rw [decide_eq_false]; rintro rfl; exact a rfl
  · rintro v ⟨a, b, c, d, h0, h1v, hj⟩
    refine ⟨fun hlt => ⟨⟨h0, hlt⟩, ⟨h0, by omega⟩, fun he => ⟨⟨by omega, by omega⟩, ⟨a, b, c, d, by omega, by omega, fun j hjv => ?_⟩, by dsimp only; omega⟩, fun he => ?_⟩, fun hge => ?_⟩
    · by_cases hji : (j : Int) = v
      · rw [hji]; exact he
      · exact hj j (by omega)
    · rw [decide_eq_false]; rintro rfl; exact he rfl
    · have en : p.notches = q.notches := ext_ai d fun j hjl => hj j (by omega)
      refine ⟨_, ret_sameE p.edges q.edges h1 h2, fun e1 => ⟨_, ret_spots p.corners q.corners h3, fun e2 => ⟨_, ret_ints p.widths q.widths h4, ?_⟩, fun e2 => ?_⟩, fun e1 => ?_⟩
      · rw [decide_eq_decide]
        exact ⟨fun h => by rw [h], fun h => piece_eq a (of_decide_eq_true e1) b en (of_decide_eq_true e2) h c⟩
      · rw [decide_eq_false]; rintro rfl; exact of_decide_eq_false e2 rfl
      · rw [decide_eq_false]; rintro rfl; exact of_decide_eq_false e1 rfl
theorem notchesT_len (t : Turn) (p : Piece) : (notchesT t p).length = p.notches.length := by unfold notchesT; split <;> simp
/-- A piece that is not too large for the walks. -/
structure Lim (p : Piece) : Prop where
  e : p.edges.length ≤ 1000000
  l : ∀ e, e ∈ p.edges → e.line.length ≤ 1000000
  c : p.corners.length ≤ 1000000
  w : p.widths.length ≤ 1000000
  n : p.notches.length ≤ 1000000
theorem Lim.turn {p : Piece} (h : Lim p) (t : Turn) : Lim (turnP t p) := by
  refine ⟨?_, ?_, ?_, ?_, ?_⟩
  · show (turnO t p.edges).length ≤ _; rw [turnO_len]; exact h.e
  · intro e he
    obtain ⟨x, hx, rfl⟩ := mem_turnO.1 he
    show (polyT t x.line).length ≤ _; rw [polyT_len]; exact h.l x hx
  · show (cornersT t p).length ≤ _; rw [cornersT_len]; exact h.c
  · show (widthsT t p).length ≤ _; rw [widthsT_len]; exact h.w
  · show (notchesT t p).length ≤ _; rw [notchesT_len]; exact h.n
theorem Lim.of_light {p : Piece} {a : Nat} (h : light p a = true) (ha : a ≤ 1000000) : Lim p := by
  obtain ⟨l1, l2, l3, l4, l5⟩ := light_inv h
  exact ⟨by omega, fun e he => by have := (l5 e he).1; omega, by omega, by omega, by omega⟩
theorem law_composes (p : Piece) (a b : Turn) (hw : WP p) (ha : InR a.quarter) (hb : InR b.quarter) : Ret Tryd.prog XS 8 [.agg [str p.name, .sl 2 (p.edges.map cEdge), int p.grain, .sl 2 (p.notches.map cNotch), .sl 2 (p.corners.map cSpot), .sl 1 (p.widths.map cI), boo p.match_], .agg [boo a.flip, int a.quarter], .agg [boo b.flip, int b.quarter]] (boo true) := by
  refine garmentlaw21_GradeComposes_W p a b true (fun v => light p 40 = true ∧ p.corners.length = p.edges.length ∧ p.widths.length = p.edges.length ∧ ocheck p.edges = 0 ∧ 0 ≤ v ∧ v ≤ p.notches.length ∧ ∀ j : Nat, (h : j < p.notches.length) → (j : Int) < v → NotchOk p p.notches[j]) (fun v => p.notches.length - v.toNat)
    ⟨_, ret_light p 40 (by omega), fun hl => ⟨fun h1 => ⟨fun h2 => ⟨_, ret_ocheck _, fun h3 => ⟨hl, by omega, by omega, h3, by omega, by omega, fun j _ hj => by omega⟩, fun _ => ⟨_, ret_example, rfl⟩⟩, fun _ => ⟨_, ret_example, rfl⟩⟩, fun _ => ⟨_, ret_example, rfl⟩⟩, fun _ => ⟨_, ret_example, rfl⟩⟩ ?_
  rintro v ⟨hl, hc, hwl, ho, h0, h1, hj⟩
  obtain ⟨i, rfl⟩ : ∃ i : Nat, v = i := ⟨v.toNat, by omega⟩
  have O := ocheck_zero.1 ho
  have L := Lim.of_light (a := 40) hl (by decide)
  have Ln := L.n
  refine ⟨fun hlt => ?_, fun hge => ?_⟩
  · have hi : i < p.notches.length := by omega
    rw [ai_get rfl hi]
    refine ⟨⟨h0, hlt⟩, fun _ => ⟨_, ret_example, rfl⟩, fun e0 => ⟨fun _ => ⟨_, ret_example, rfl⟩, fun e1 => ⟨⟨by omega, by omega⟩, _, _, ret_length _, fun hz => ⟨fun _ => ⟨_, ret_example, rfl⟩, fun a0 => ⟨fun _ => ⟨_, ret_example, rfl⟩, fun a1 => ⟨⟨by omega, by omega⟩, ⟨hl, hc, hwl, ho, by omega, by omega, fun j hjl hjv => ?_⟩, by dsimp only; omega⟩⟩⟩, fun hz => ?_⟩⟩⟩
    · by_cases hji : j = i
      · subst hji
        have a1 : ¬ p.notches[j].at_ > lenL (ai p.edges p.notches[j].edge).line := a1
        exact ⟨⟨by omega, by omega⟩, by omega, by omega⟩
      · exact hj j hjl (by omega)
    · exact absurd (check_zero.2 (O.lines _ (ai_mem ⟨by omega, by omega⟩))) hz
  · have hx : ∀ x, x ∈ p.notches → NotchOk p x := fun x hx => by
      obtain ⟨j, hjl, rfl⟩ := List.getElem_of_mem hx
      exact hj j hjl (by omega)
    have La := L.turn a
    have Lab := La.turn b
    have Lai := La.turn (invT a)
    have hi : InR (invT a).quarter := by unfold invT; split <;> exact ⟨by dsimp only; omega, by dsimp only; omega⟩
    have hcq : InR (compT a b).quarter := ⟨by simp only [compT]; omega, by simp only [compT]; omega⟩
    refine ⟨turnP a p, ret_gturned p a ha L.e L.l L.c L.w L.n, turnP b (turnP a p), ret_gturned _ b hb La.e La.l La.c La.w La.n, compT a b, ret_compose a b ha hb, turnP (compT a b) p, ret_gturned p (compT a b) hcq L.e L.l L.c L.w L.n, _, ret_sameP _ _ Lab.e Lab.l Lab.c Lab.w Lab.n, fun _ => ⟨invT a, ret_inverse a ha, turnP (invT a) (turnP a p), ret_gturned _ (invT a) hi La.e La.l La.c La.w La.n, _, ret_sameP _ _ Lai.e Lai.l Lai.c Lai.w Lai.n, fun _ => ⟨_, ret_example, rfl⟩, fun hf => ?_⟩, fun hf => ?_⟩
    · exact absurd (turn_inv hw O.lines hwl hx a) (of_decide_eq_false hf)
    · exact absurd (turn_comp hw O.lines hwl hx a b) (of_decide_eq_false hf)
end Go.Ab
