/- Chapter 21: an edge whose ends are moved. -/
import Derived.Test.YtmdeiagmlabfmaaDoorDG7
import Derived.Test.YtmdeiagmlabfmaaDoorDWall
set_option linter.unusedVariables false
set_option linter.unusedSimpArgs false
set_option linter.unusedSectionVars false

section
namespace Go.Ab
open Go.Proofs
set_option maxRecDepth 10000
set_option linter.unusedVariables false

/-- How far the vertex at k is moved. -/
def sh (n k : Nat) (a b : Int) : Int := shr (((n : Int) - 1 - k) * a + k * b) ((n : Int) - 1)
def alongAt (l : List Spot) (a b : Spot) (k : Nat) : Spot := ⟨((l[k]?).getD default).x + sh l.length k a.x b.x, ((l[k]?).getD default).y + sh l.length k a.y b.y⟩
def alongL (l : List Spot) (a b : Spot) : List Spot := (List.range l.length).map (alongAt l a b)
theorem alongL_len (l : List Spot) (a b : Spot) : (alongL l a b).length = l.length := by simp [alongL]
def Sm (p : Spot) : Prop := (-100000 ≤ p.x ∧ p.x ≤ 100000) ∧ -100000 ≤ p.y ∧ p.y ≤ 100000
theorem lin_box {n k : Nat} {a b : Int} (hk : k < n) (hn : n ≤ 40) (ha : -100000 ≤ a ∧ a ≤ 100000) (hb : -100000 ≤ b ∧ b ≤ 100000) :
    (-4000000 ≤ ((n : Int) - 1 - k) * a ∧ ((n : Int) - 1 - k) * a ≤ 4000000) ∧ -4000000 ≤ (k : Int) * b ∧ (k : Int) * b ≤ 4000000 := by
  have p := mul_box (a := (n : Int) - 1 - k) (b := a) (K := 40) (L := 100000) (by omega) (by omega) (by omega) (by omega)
  have q := mul_box (a := (k : Int)) (b := b) (K := 40) (L := 100000) (by omega) (by omega) (by omega) (by omega)
  omega
theorem shr_box {n s : Int} (hs : 0 < s) : -(2 * (if n < 0 then -n else n) + s) ≤ shr n s ∧ shr n s ≤ 2 * (if n < 0 then -n else n) + s := by
  unfold shr
  split
  · have := tdiv_box (a := 2 * (-n) + s) (b := 2 * s) (by omega) (by omega); omega
  · have := tdiv_box (a := 2 * n + s) (b := 2 * s) (by omega) (by omega); omega
theorem ret_along {l : List Spot} {a b : Spot} (h2 : 2 ≤ l.length) (h40 : l.length ≤ 40) (hl : ∀ p, p ∈ l → G p) (ha : Sm a) (hb : Sm b) :
    Ret Tryd.prog XS 28 [.sl 2 (l.map cSpot), .agg [int a.x, int a.y], .agg [int b.x, int b.y]] (.fr 2 ((alongL l a b).map cSpot)) := by
  refine grade_along_W l a b (alongL l a b) (fun v w => 0 ≤ v ∧ v ≤ l.length ∧ w.length = l.length ∧ ∀ j : Nat, (j : Int) < v → w[j]? = some (alongAt l a b j)) (fun v w => l.length - v.toNat)
    ⟨⟨by omega, by omega⟩, by omega, by omega, by omega, by omega, by omega, by simp, fun j hj => by omega⟩ ?_
  rintro v w ⟨h0, h1, hw, h3⟩
  obtain ⟨i, rfl⟩ : ∃ i : Nat, v = i := ⟨v.toNat, by omega⟩
  refine ⟨fun hlt => ?_, fun hge => ?_⟩
  · have hi : i < l.length := by omega
    have hg := hl l[i] (List.getElem_mem hi)
    obtain ⟨⟨g1, g2⟩, g3, g4⟩ := hg
    have bx := lin_box hi h40 ha.1 hb.1
    have bY := lin_box hi h40 ha.2 hb.2
    have sx := shr_box (n := ((l.length : Int) - 1 - i) * a.x + i * b.x) (s := (l.length : Int) - 1) (by omega)
    have sy := shr_box (n := ((l.length : Int) - 1 - i) * a.y + i * b.y) (s := (l.length : Int) - 1) (by omega)
    rw [ai_get rfl hi]
    have e : (⟨l[i].x + sh l.length i a.x b.x, l[i].y + sh l.length i a.y b.y⟩ : Spot) = alongAt l a b i := by simp [alongAt, hi]
    have tx : -17000000 ≤ sh l.length i a.x b.x ∧ sh l.length i a.x b.x ≤ 17000000 := by unfold sh; split at sx <;> omega
    have ty : -17000000 ≤ sh l.length i a.y b.y ∧ sh l.length i a.y b.y ≤ 17000000 := by unfold sh; split at sy <;> omega
    refine ⟨⟨h0, hlt⟩, ⟨by omega, by omega⟩, ⟨by omega, by omega⟩, ⟨by omega, by omega⟩, ⟨by omega, by omega⟩, _, ret_share ⟨by omega, by omega⟩ (by omega) (by omega), ?_, ⟨by omega, by omega⟩, ⟨by omega, by omega⟩, ⟨by omega, by omega⟩, _, ret_share ⟨by omega, by omega⟩ (by omega) (by omega), ?_, ⟨by omega, by omega⟩, ⟨by omega, by omega⟩, ⟨by omega, by omega, by simpa using hw, fun j hj => ?_⟩, by dsimp only; omega⟩
    · show InR (l[i].x + sh l.length i a.x b.x); exact ⟨by omega, by omega⟩
    · show InR (l[i].y + sh l.length i a.y b.y); exact ⟨by omega, by omega⟩
    · rw [show ((i : Int).toNat) = i from rfl, List.getElem?_set]
      split
      · rename_i e2; subst e2; rw [if_pos (by omega), ← e]; rfl
      · exact h3 j (by omega)
  · refine List.ext_getElem? fun j => ?_
    by_cases hj : j < l.length
    · rw [h3 j (by omega)]; simp [alongL, hj]
    · rw [List.getElem?_eq_none (by rw [alongL_len]; omega), List.getElem?_eq_none (by omega)]
end Go.Ab
end

section
namespace Go.Ab
open Go.Proofs
set_option maxRecDepth 10000
set_option linter.unusedVariables false

def mv (m : Int) (p : Spot) : Spot := ⟨m * p.x, m * p.y⟩
def gE (p : Piece) (m : Int) (i : Nat) : Edge := ⟨((p.edges[i]?).getD default).name, alongL ((p.edges[i]?).getD default).line (mv m (vx p.corners i)) (mv m (vx p.corners (i + 1)))⟩
def gradedL (p : Piece) (m : Int) : List Edge := (List.range p.edges.length).map (gE p m)
noncomputable def gerr (p : Piece) (m : Int) : Int :=
  if m < -100 ∨ 100 < m then 3 else if p.corners.length ≠ p.edges.length then 1 else if p.corners.all shifted = false then 3 else if ocheck p.edges ≠ 0 then ocheck p.edges else ocheck (gradedL p m)
noncomputable def gres (p : Piece) (m : Int) : List Edge := if gerr p m = 0 then gradedL p m else []
theorem ocheck_inv {l : List Edge} (h : ocheck l = 0) : l.length ≤ 16 ∧ 2 ≤ l.length ∧ eerr l = 0 ∧ (∀ i, i < l.length → Joined l i) ∧ pcheck (vertsL l) = 0 := by
  unfold ocheck at h
  split at h
  · cases h
  · split at h
    · cases h
    · split at h
      · contradiction
      · split at h
        · exact ⟨by omega, by omega, by omega, by assumption, h⟩
        · cases h
theorem check_grid {l : List Spot} (h : check l = 0) : ∀ p, p ∈ l → G p := by
  intro p hp
  unfold check at h
  split at h
  · cases h
  · split at h
    · cases h
    · split at h
      · cases h
      · rename_i hg
        exact G_of (List.all_eq_true.1 (by simpa using hg) p hp)
theorem mv_box {m : Int} {p : Spot} (hm : -100 ≤ m ∧ m ≤ 100) (hp : shifted p = true) : Sm (mv m p) := by
  simp only [shifted, small, Bool.and_eq_true, decide_eq_true_eq] at hp
  have a := mul_box (a := m) (b := p.x) (K := 100) (L := 1000) (by omega) (by omega) (by omega) (by omega)
  have b := mul_box (a := m) (b := p.y) (K := 100) (L := 1000) (by omega) (by omega) (by omega) (by omega)
  exact ⟨⟨by simp only [mv]; omega, by simp only [mv]; omega⟩, by simp only [mv]; omega, by simp only [mv]; omega⟩
theorem ret_mv {m : Int} {p : Spot} (h : Sm (mv m p)) : Ret Tryd.prog XS 27 [int m, .agg [int p.x, int p.y]] (.agg [int (mv m p).x, int (mv m p).y]) := by
  obtain ⟨⟨a, b⟩, c, d⟩ := h
  simp only [mv] at a b c d
  exact ret_move ⟨by omega, by omega⟩ ⟨by omega, by omega⟩
theorem gradedL_len (p : Piece) (m : Int) : (gradedL p m).length = p.edges.length := by simp [gradedL]
end Go.Ab
end

section
namespace Go.Ab
open Go.Proofs
set_option maxRecDepth 10000
set_option linter.unusedVariables false

theorem ret_graded (p : Piece) (m : Int) (hc : p.corners.length ≤ 1000000) : Ret Tryd.prog XS 11 [.agg [str p.name, .sl 2 (p.edges.map cEdge), int p.grain, .sl 2 (p.notches.map cNotch), .sl 2 (p.corners.map cSpot), .sl 1 (p.widths.map cI), boo p.match_], int m] (.tup [.fr 2 ((gres p m).map cEdge), int (gerr p m)]) := by
  have out : ∀ e : Int, e ≠ 0 → gerr p m = e → gres p m = [] ∧ gerr p m = e := fun e h he => ⟨by rw [gres, if_neg (by rw [he]; exact h)], he⟩
  refine grade_Graded_W p m (gres p m) (gerr p m)
    (fun v => 0 ≤ v ∧ v ≤ p.corners.length ∧ (-100 ≤ m ∧ m ≤ 100) ∧ p.corners.length = p.edges.length ∧ ∀ j : Nat, (h : j < p.corners.length) → (j : Int) < v → shifted p.corners[j] = true) (fun v => p.corners.length - v.toNat)
    (fun o v => 0 ≤ v ∧ v ≤ p.edges.length ∧ (-100 ≤ m ∧ m ≤ 100) ∧ p.corners.length = p.edges.length ∧ p.corners.all shifted = true ∧ ocheck p.edges = 0 ∧ o = (gradedL p m).take v.toNat) (fun o v => p.edges.length - v.toNat)
    ⟨fun h => ?_, fun h => ⟨fun h2 => ?_, fun h2 => ⟨fun h3 => ⟨by omega, by omega, ⟨by omega, by omega⟩, by omega, fun j _ hj => by omega⟩, fun h3 => ?_⟩⟩⟩ ?_ ?_
  · have := out 3 (by decide) (by rw [gerr, if_pos (.inl h)]); exact ⟨this.1.symm ▸ this.1, this.2⟩
  · have := out 3 (by decide) (by rw [gerr, if_pos (.inr h2)]); exact this
  · exact out 1 (by decide) (by rw [gerr, if_neg (by omega), if_pos (by omega)])
  · rintro v ⟨h0, h1, hm, hn, hj⟩
    obtain ⟨i, rfl⟩ : ∃ i : Nat, v = i := ⟨v.toNat, by omega⟩
    refine ⟨fun hlt => ?_, fun hge => ?_⟩
    · have hi : i < p.corners.length := by omega
      rw [ai_get rfl hi]
      refine ⟨⟨h0, hlt⟩, _, ret_shifted _, fun hs => ⟨⟨by omega, by omega⟩, ⟨by omega, by omega, hm, hn, fun j hj1 hj2 => ?_⟩, by dsimp only; omega⟩, fun hs => out 3 (by decide) ?_⟩
      · by_cases hji : j = i
        · subst hji; exact hs
        · exact hj j hj1 (by omega)
      · have : p.corners.all shifted = false := by
          rw [List.all_eq_false]; exact ⟨_, List.getElem_mem hi, by simp [hs]⟩
        rw [gerr, if_neg (by omega), if_neg (by omega), if_pos this]
    · have hall : p.corners.all shifted = true := by
        rw [List.all_eq_true]
        intro q hq
        obtain ⟨j, hj1, rfl⟩ := List.getElem_of_mem hq
        exact hj j hj1 (by omega)
      refine ⟨_, ret_ocheck p.edges, fun ho => ⟨by omega, by omega, hm, hn, hall, ho, by simp⟩, fun ho => out _ ho ?_⟩
      rw [gerr, if_neg (by omega), if_neg (by omega), if_neg (by simp [hall]), if_pos ho]
  · rintro o v ⟨h0, h1, hm, hn, hall, ho, rfl⟩
    obtain ⟨i, rfl⟩ : ∃ i : Nat, v = i := ⟨v.toNat, by omega⟩
    obtain ⟨o16, o2, oe, oj, op⟩ := ocheck_inv ho
    refine ⟨fun hlt => ?_, fun hge => ?_⟩
    · have hi : i < p.edges.length := by omega
      have hmd : (i + 1) % p.corners.length < p.corners.length := Nat.mod_lt _ (by omega)
      have et : ((i : Int) + 1).tmod (((p.corners.length : Nat)) : Int) = (((i + 1) % p.corners.length : Nat) : Int) := tmod_nat (by omega) rfl
      have sm : ∀ q, Sm (mv m (vx p.corners q)) := fun q => mv_box hm (List.all_eq_true.1 hall _ (vx_mem (by omega) q))
      have hck := edge_lines oe p.edges[i] (List.getElem_mem hi)
      have hln := check_len hck
      have hal := ret_along (l := p.edges[i].line) hln.1 hln.2 (check_grid hck) (sm i) (sm (i + 1))
      have eg : (⟨p.edges[i].name, alongL p.edges[i].line (mv m (vx p.corners i)) (mv m (vx p.corners (i + 1)))⟩ : Edge) = gE p m i := by simp [gE, hi]
      have ek : (gradedL p m).take ((i : Int)).toNat ++ [gE p m i] = (gradedL p m).take ((i : Int) + 1).toNat := by
        rw [show ((i : Int) + 1).toNat = i + 1 by omega, show ((i : Int)).toNat = i from rfl, List.take_add_one]
        simp [gradedL, hi]
      rw [et, ai_get rfl hi, ai_vx rfl (show i < p.corners.length by omega), ai_vx rfl hmd, vx_mod]
      refine ⟨⟨h0, hlt⟩, ⟨by omega, by omega⟩, _, ret_mv (sm i), ⟨by omega, by omega⟩, by omega, ⟨by omega, by omega⟩, _, ret_mv (sm (i + 1)), _, hal, ?_, ⟨by omega, by omega, hm, hn, hall, ho, ?_⟩, by dsimp only; omega⟩
      · rw [eg, ek]; simp only [Cap, List.length_take, gradedL_len]; omega
      · rw [eg, ek]
    · have e1 : (gradedL p m).take ((i : Int)).toNat = gradedL p m := List.take_of_length_le (by rw [gradedL_len]; omega)
      rw [e1]
      have eg : gerr p m = ocheck (gradedL p m) := by rw [gerr, if_neg (by omega), if_neg (by omega), if_neg (by simp [hall]), if_neg (by simp [ho])]
      exact ⟨_, ret_ocheck _, fun hz => ⟨by rw [gres, if_pos (by rw [eg]; exact hz)], by rw [eg]; exact hz⟩, fun hz => out _ hz eg⟩
end Go.Ab
end

section
namespace Go.Ab
open Go.Proofs
set_option maxRecDepth 10000
set_option linter.unusedVariables false

theorem ext_ai {α : Type} [Inhabited α] {a b : List α} (hl : a.length = b.length) (h : ∀ j : Nat, (j : Int) < a.length → ai a (j : Int) = ai b (j : Int)) : a = b := by
  refine List.ext_getElem hl fun j h1 h2 => ?_
  have := h j (by omega)
  rwa [ai_get rfl h1, ai_get rfl h2] at this
theorem ret_spots (a b : List Spot) (hn : a.length ≤ 1000000) : Ret Tryd.prog XS 17 [.sl 2 (a.map cSpot), .sl 2 (b.map cSpot)] (boo (decide (a = b))) := by
  refine garmentref11_Same_W a b _ (fun v => 0 ≤ v ∧ v ≤ a.length ∧ a.length = b.length ∧ ∀ j : Nat, (j : Int) < v → ai a (j : Int) = ai b (j : Int)) (fun v => a.length - v.toNat)
    ⟨fun h => ⟨by omega, by omega, by omega, fun j hj => by omega⟩, fun h => by rw [decide_eq_false]; rintro rfl; exact h rfl⟩ ?_
  rintro v ⟨h0, h1, hl, hj⟩
  obtain ⟨i, rfl⟩ : ∃ i : Nat, v = i := ⟨v.toNat, by omega⟩
  refine ⟨fun hlt => ⟨⟨h0, hlt⟩, ⟨by omega, by omega⟩, fun he => ⟨⟨by omega, by omega⟩, ⟨by omega, by omega, hl, fun j hjl => ?_⟩, by dsimp only; omega⟩, fun he => ?_⟩, fun hge => ?_⟩
  · by_cases hji : j = i
    · subst hji; exact he
    · exact hj j (by omega)
  · rw [decide_eq_false]; rintro rfl; exact he rfl
  · rw [decide_eq_true]; exact ext_ai hl fun j hjl => hj j (by omega)
theorem ret_sameE (a b : List Edge) (hn : a.length ≤ 1000000) (hL : ∀ e, e ∈ a → e.line.length ≤ 1000000) : Ret Tryd.prog XS 13 [.sl 2 (a.map cEdge), .sl 2 (b.map cEdge)] (boo (decide (a = b))) := by
  refine garmentref21_SameEdges_W a b _ (fun v => 0 ≤ v ∧ v ≤ a.length ∧ a.length = b.length ∧ ∀ j : Nat, (j : Int) < v → ai a (j : Int) = ai b (j : Int)) (fun v => a.length - v.toNat)
    ⟨fun h => ⟨by omega, by omega, by omega, fun j hj => by omega⟩, fun h => by rw [decide_eq_false]; rintro rfl; exact h rfl⟩ ?_
  rintro v ⟨h0, h1, hl, hj⟩
  obtain ⟨i, rfl⟩ : ∃ i : Nat, v = i := ⟨v.toNat, by omega⟩
  refine ⟨fun hlt => ⟨⟨h0, hlt⟩, ⟨by omega, by omega⟩, fun he => ⟨_, ret_spots _ _ (hL _ (ai_mem ⟨h0, hlt⟩)), fun hs => ⟨⟨by omega, by omega⟩, ⟨by omega, by omega, hl, fun j hjl => ?_⟩, by dsimp only; omega⟩, fun hs => ?_⟩, fun he => ?_⟩, fun hge => ?_⟩
  · by_cases hji : j = i
    · subst hji
      have h2 := of_decide_eq_true hs
      generalize ai a (j : Int) = x at he h2
      generalize ai b (j : Int) = y at he h2
      cases x; cases y; simp at he h2; rw [he, h2]
    · exact hj j (by omega)
  · rw [decide_eq_false]; rintro rfl; exact of_decide_eq_false hs rfl
  · rw [decide_eq_false]; rintro rfl; exact he rfl
  · rw [decide_eq_true]; exact ext_ai hl fun j hjl => hj j (by omega)
end Go.Ab
end

section
namespace Go.Ab
open Go.Proofs
set_option maxRecDepth 10000
set_option linter.unusedVariables false

def okE (a : Int) (e : Edge) : Bool := decide (((e.line.length : Nat) : Int) ≤ a) && decide (e.name.size ≤ 100)
def sumE (l : List Edge) : Nat := (l.map fun e => e.line.length).sum
def light (p : Piece) (a : Int) : Bool := decide (p.edges.length ≤ 20) && (decide (p.corners.length ≤ 20) && (decide (p.widths.length ≤ 20) && (decide (p.notches.length ≤ 20) && (p.edges.all (okE a) && decide (((sumE p.edges : Nat) : Int) ≤ a)))))
theorem sum_take {l : List Edge} {i : Nat} (hi : i < l.length) : sumE (l.take (i + 1)) = sumE (l.take i) + l[i].line.length := by
  unfold sumE
  rw [List.take_add_one, List.getElem?_eq_getElem hi, Option.toList_some, List.map_append, List.sum_append]
  simp
theorem sum_le {l : List Edge} {a : Nat} (h : ∀ e, e ∈ l → e.line.length ≤ a) : sumE l ≤ a * l.length := by
  induction l with
  | nil => simp [sumE]
  | cons e r ih =>
    have h1 := ih fun e he => h e (List.mem_cons_of_mem _ he)
    have h2 := h e List.mem_cons_self
    simp only [sumE, List.map_cons, List.sum_cons, List.length_cons, Nat.mul_add] at h1 ⊢
    omega
theorem ret_light (p : Piece) (a : Nat) (ha : a ≤ 1000000) : Ret Tryd.prog XS 9 [.agg [str p.name, .sl 2 (p.edges.map cEdge), int p.grain, .sl 2 (p.notches.map cNotch), .sl 2 (p.corners.map cSpot), .sl 1 (p.widths.map cI), boo p.match_], int (a : Int)] (boo (light p a)) := by
  refine garmentref21_Light_W p a _ (fun n v => 0 ≤ v ∧ v ≤ p.edges.length ∧ p.edges.length ≤ 20 ∧ p.corners.length ≤ 20 ∧ p.widths.length ≤ 20 ∧ p.notches.length ≤ 20 ∧ n = (sumE (p.edges.take v.toNat) : Nat) ∧ ∀ j : Nat, (h : j < p.edges.length) → (j : Int) < v → okE a p.edges[j] = true) (fun n v => p.edges.length - v.toNat)
    ⟨fun h => by simp [light, show ¬ (p.edges.length ≤ 20) by omega], fun h1 => ⟨fun h => by simp [light, show ¬ (p.corners.length ≤ 20) by omega], fun h2 => ⟨fun h => by simp [light, show ¬ (p.widths.length ≤ 20) by omega], fun h3 => ⟨fun h => by simp [light, show ¬ (p.notches.length ≤ 20) by omega], fun h4 => ⟨by omega, by omega, by omega, by omega, by omega, by omega, by simp [sumE], fun j _ hj => by omega⟩⟩⟩⟩⟩ ?_
  rintro n v ⟨h0, h1, l1, l2, l3, l4, rfl, hj⟩
  obtain ⟨i, rfl⟩ : ∃ i : Nat, v = i := ⟨v.toNat, by omega⟩
  refine ⟨fun hlt => ?_, fun hge => ?_⟩
  · have hi : i < p.edges.length := by omega
    have bad : okE a p.edges[i] = false → light p a = false := by
      intro h
      have : p.edges.all (okE a) = false := by rw [List.all_eq_false]; exact ⟨_, List.getElem_mem hi, by simp [h]⟩
      simp [light, this]
    rw [ai_get rfl hi]
    have hs := sum_le (l := p.edges.take i) (a := a) fun e he => by
      obtain ⟨j, hjl, rfl⟩ := List.getElem_of_mem he
      rw [List.length_take] at hjl
      rw [List.getElem_take]
      have := hj j (by omega) (by omega)
      simp only [okE, Bool.and_eq_true, decide_eq_true_eq] at this
      omega
    have hs2 : sumE (p.edges.take i) ≤ 20000000 := Nat.le_trans hs (Nat.le_trans (Nat.mul_le_mul ha (show (p.edges.take i).length ≤ 20 by simp; omega)) (by decide))
    have hst := sum_take hi
    refine ⟨⟨h0, hlt⟩, fun h => (bad (by simp [okE, show ¬ (((p.edges[i].line.length : Nat) : Int) ≤ a) by omega])), fun h => ⟨fun h' => bad (by simp [okE, show ¬ (p.edges[i].name.size ≤ 100) by omega]), fun h' => ⟨?_, ⟨by omega, by omega⟩, ⟨by omega, by omega, l1, l2, l3, l4, ?_, fun j hj1 hj2 => ?_⟩, by dsimp only; omega⟩⟩⟩
    · rw [show (i : Int).toNat = i from rfl]; exact ⟨by omega, by omega⟩
    · rw [show ((i : Int) + 1).toNat = i + 1 by omega, show (i : Int).toNat = i from rfl, hst]; omega
    · by_cases hji : j = i
      · subst hji; simp only [okE, Bool.and_eq_true, decide_eq_true_eq]; omega
      · exact hj j hj1 (by omega)
  · have hall : p.edges.all (okE a) = true := by
      rw [List.all_eq_true]
      intro e he
      obtain ⟨j, hj1, rfl⟩ := List.getElem_of_mem he
      exact hj j hj1 (by omega)
    rw [show (i : Int).toNat = p.edges.length by omega, List.take_length]
    simp [light, hall, l1, l2, l3, l4]
end Go.Ab
end
