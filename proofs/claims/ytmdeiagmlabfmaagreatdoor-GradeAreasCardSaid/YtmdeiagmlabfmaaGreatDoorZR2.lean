/- The references: outlines, grading. -/
import Derived.Test.YtmdeiagmlabfmaaGreatDoorZR1
import Derived.Test.YtmdeiagmlabfmaaGreatDoorZT8
set_option linter.unusedVariables false
set_option linter.unusedSimpArgs false
set_option linter.unusedSectionVars false

namespace Go.Ab
open Go.Proofs
set_option maxRecDepth 10000
set_option linter.unusedVariables false

theorem ret_rverts (l : List Edge) (h : ∀ e, e ∈ l → 1 ≤ e.line.length ∧ e.line.length ≤ 40) (hn : l.length ≤ 1000) : Ret Tryz.prog XS 39 [.sl 2 (l.map cEdge)] (.fr 2 ((vertsL l).map cSpot)) := by
  refine garmentref20_Vertices_W l (vertsL l) (fun o v => 0 ≤ v ∧ v ≤ l.length ∧ o = vertsL (l.take v.toNat)) (fun o v => l.length - v.toNat) ⟨by omega, by omega, by simp [vertsL]⟩ ?_
  rintro o v ⟨h0, h1, rfl⟩
  obtain ⟨i, rfl⟩ : ∃ i : Nat, v = i := ⟨v.toNat, by omega⟩
  refine ⟨fun hlt => ?_, fun hge => ?_⟩
  · have hi : i < l.length := by omega
    have hl := h l[i] (List.getElem_mem hi)
    rw [ai_get rfl hi]
    have e1 : cut l[i].line 0 (((l[i].line.length : Nat) : Int) - 1) = l[i].line.dropLast := by
      rw [show (((l[i].line.length : Nat) : Int) - 1) = ((l[i].line.length - 1 : Nat) : Int) by omega, cut0, List.dropLast_eq_take]
    have e2 : vertsL (l.take (i : Int).toNat) ++ l[i].line.dropLast = vertsL (l.take (i + 1)) := (verts_take hi).symm
    rw [e1, e2]
    have hle := verts_len (l := l.take (i + 1)) fun e he => (h e (List.mem_of_mem_take he)).2
    refine ⟨⟨h0, hlt⟩, fun _ => ⟨⟨by omega, by omega⟩, ⟨by omega, by omega, by omega⟩, ?_, ⟨by omega, by omega⟩, ⟨by omega, by omega, rfl⟩, by dsimp only; omega⟩, fun hn0 => by omega⟩
    have : (l.take (i + 1)).length ≤ 1000 := by simp; omega
    simp only [Cap]
    omega
  · rw [show (i : Int).toNat = l.length by omega, List.take_length]
theorem joined_next {l : List Edge} {i : Nat} (hi : i < l.length) : Joined l ((i + 1) % l.length) ↔ ai (ai l (i : Int)).line (((ai l (i : Int)).line.length : Int) - 1) = ai (ai l (((i + 1) % l.length : Nat) : Int)).line 0 := by
  unfold Joined
  have : ((i + 1) % l.length + l.length - 1) % l.length = i := by
    rw [show (i + 1) % l.length + l.length - 1 = (i + 1) % l.length + (l.length - 1) by omega, Nat.mod_add_mod, show i + 1 + (l.length - 1) = i + l.length by omega, Nat.add_mod_right, Nat.mod_eq_of_lt hi]
  rw [this]
theorem ret_rocheck (l : List Edge) : Ret Tryz.prog XS 21 [.sl 2 (l.map cEdge)] (int (ocheck l)) := by
  refine garmentref20_Check_W l (ocheck l) (fun v => 0 ≤ v ∧ v ≤ l.length ∧ l.length ≤ 16 ∧ 2 ≤ l.length ∧ ∀ j : Nat, (j : Int) < v → edgeErr l j = 0) (fun v => l.length - v.toNat)
    (fun v => 0 ≤ v ∧ v ≤ l.length ∧ l.length ≤ 16 ∧ 2 ≤ l.length ∧ eerr l = 0 ∧ ∀ j : Nat, (j : Int) < v → Joined l ((j + 1) % l.length)) (fun v => l.length - v.toNat)
    ⟨fun h => by rw [ocheck, if_pos (by omega)], fun h => ⟨fun h2 => by rw [ocheck, if_neg (by omega), if_pos (by omega)], fun h2 => ⟨by omega, by omega, by omega, by omega, fun j hj => by omega⟩⟩⟩ ?_ ?_
  · rintro v ⟨h0, h1, h16, h2, hj⟩
    obtain ⟨i, rfl⟩ : ∃ i : Nat, v = i := ⟨v.toNat, by omega⟩
    refine ⟨fun hlt => ?_, fun hge => ?_⟩
    · have hi : i < l.length := by omega
      have hp : ∀ j, j < i → edgeErr l j = 0 := fun j hj' => hj j (by omega)
      have ee : edgeErr l i = if isName l[i].name = false then 1 else if bears (l.take i) l[i] = true then 7 else check l[i].line := by simp [edgeErr, hi]
      have bad : edgeErr l i ≠ 0 → ocheck l = edgeErr l i := fun hne => by
        have e := eerr_at hi hp hne
        rw [ocheck, if_neg (by omega), if_neg (by omega), if_pos (by rw [e]; exact hne), e]
      rw [ai_get rfl hi]
      refine ⟨⟨h0, hlt⟩, _, ret_rname _, fun hb => ⟨_, ret_rnamed l i l[i] (by omega) (by omega), fun hc => ?_, fun hc => ⟨_, ret_rcheck _, fun hz => ⟨⟨by omega, by omega⟩, ⟨by omega, by omega, h16, h2, fun j hjv => ?_⟩, by dsimp only; omega⟩, fun hz => ?_⟩⟩, fun hb => ?_⟩
      · rw [if_neg (by simp [hb]), if_pos hc] at ee
        rw [bad (by rw [ee]; decide), ee]
      · by_cases hji : j = i
        · subst hji; rw [ee, if_neg (by simp [hb]), if_neg (by simp [hc]), hz]
        · exact hp j (by omega)
      · rw [if_neg (by simp [hb]), if_neg (by simp [hc])] at ee
        rw [bad (by rw [ee]; exact hz), ee]
      · rw [if_pos hb] at ee
        rw [bad (by rw [ee]; decide), ee]
    · exact ⟨by omega, by omega, h16, h2, eerr_0 fun j hjl => hj j (by omega), fun j hj => by omega⟩
  · rintro v ⟨h0, h1, h16, h2, he, hj⟩
    obtain ⟨i, rfl⟩ : ∃ i : Nat, v = i := ⟨v.toNat, by omega⟩
    have lines := edge_lines he
    refine ⟨fun hlt => ?_, fun hge => ?_⟩
    · have hi : i < l.length := by omega
      have hm : (i + 1) % l.length < l.length := Nat.mod_lt _ (by omega)
      have et : ((i : Int) + 1).tmod (l.length : Int) = (((i + 1) % l.length : Nat) : Int) := tmod_nat (by omega) rfl
      have c1 := check_len (lines _ (ai_mem (l := l) (v := (i : Int)) ⟨by omega, by omega⟩))
      have c2 := check_len (lines _ (ai_mem (l := l) (v := (((i + 1) % l.length : Nat) : Int)) ⟨by omega, by omega⟩))
      rw [et]
      refine ⟨⟨h0, hlt⟩, ⟨by omega, by omega⟩, by omega, ⟨by omega, by omega⟩, ⟨by omega, by omega⟩, ⟨by omega, by omega⟩, ⟨by omega, by omega⟩, fun hq => ⟨⟨by omega, by omega, h16, h2, he, fun j hjv => ?_⟩, by dsimp only; omega⟩, fun hq => ?_⟩
      · by_cases hji : j = i
        · subst hji; exact (joined_next hi).2 hq
        · exact hj j (by omega)
      · rw [ocheck, if_neg (by omega), if_neg (by omega), if_neg (by simp [he]), if_neg fun hall => hq ((joined_next hi).1 (hall _ hm))]
    · have hall : ∀ j, j < l.length → Joined l j := fun j hjl => by
        have := hj ((j + l.length - 1) % l.length) (by have := Nat.mod_lt (j + l.length - 1) (show 0 < l.length by omega); omega)
        rwa [Nat.mod_add_mod, show j + l.length - 1 + 1 = j + l.length by omega, Nat.add_mod_right, Nat.mod_eq_of_lt hjl] at this
      refine ⟨_, ret_rverts l (fun e hm => by have := check_len (lines e hm); omega) (by omega), _, ret_rpcheck _, ?_⟩
      rw [ocheck, if_neg (by omega), if_neg (by omega), if_neg (by simp [he]), if_pos hall]
theorem ret_round {n s : Int} (hn : -1000000000000 ≤ n ∧ n ≤ 1000000000000) (hs : 0 < s) (hs2 : s ≤ 1000000) : Ret Tryz.prog XS 40 [int n, int s] (int (shr n s)) := by
  refine garmentref21_round_W n s _ ⟨fun h => ?_, fun h => ?_⟩
  · have := tdiv_box (a := 2 * (-n) + s) (b := 2 * s) (by omega) (by omega)
    have e : -2 * n + s = 2 * (-n) + s := by omega
    rw [e]
    exact ⟨⟨by omega, by omega⟩, ⟨by omega, by omega⟩, ⟨by omega, by omega⟩, by omega, ⟨by omega, by omega⟩, ⟨by omega, by omega⟩, by rw [shr, if_pos h]⟩
  · have := tdiv_box (a := 2 * n + s) (b := 2 * s) (by omega) (by omega)
    exact ⟨⟨by omega, by omega⟩, ⟨by omega, by omega⟩, ⟨by omega, by omega⟩, by omega, ⟨by omega, by omega⟩, by rw [shr, if_neg h]⟩
theorem ret_rgradedE {x : Edge} {a b : Spot} (h2 : 2 ≤ x.line.length) (h40 : x.line.length ≤ 40) (hl : ∀ p, p ∈ x.line → G p) (ha : Sm a) (hb : Sm b) :
    Ret Tryz.prog XS 22 [.agg [str x.name, .sl 2 (x.line.map cSpot)], .agg [int a.x, int a.y], .agg [int b.x, int b.y]] (.agg [str x.name, .fr 2 ((alongL x.line a b).map cSpot)]) := by
  refine garmentref21_graded_W x a b ⟨x.name, alongL x.line a b⟩ (fun v w => 0 ≤ v ∧ v ≤ x.line.length ∧ w = (alongL x.line a b).take v.toNat) (fun v w => x.line.length - v.toNat)
    ⟨⟨by omega, by omega⟩, by omega, by omega, by simp⟩ ?_
  rintro v w ⟨h0, h1, rfl⟩
  obtain ⟨i, rfl⟩ : ∃ i : Nat, v = i := ⟨v.toNat, by omega⟩
  refine ⟨fun hlt => ?_, fun hge => ?_⟩
  · have hi : i < x.line.length := by omega
    obtain ⟨⟨g1, g2⟩, g3, g4⟩ := hl x.line[i] (List.getElem_mem hi)
    have bx := lin_box hi h40 ha.1 hb.1
    have bY := lin_box hi h40 ha.2 hb.2
    have sx := shr_box (n := ((x.line.length : Int) - 1 - i) * a.x + i * b.x) (s := (x.line.length : Int) - 1) (by omega)
    have sy := shr_box (n := ((x.line.length : Int) - 1 - i) * a.y + i * b.y) (s := (x.line.length : Int) - 1) (by omega)
    rw [ai_get rfl hi]
    have e : (alongL x.line a b).take (i : Int).toNat ++ [(⟨x.line[i].x + sh x.line.length i a.x b.x, x.line[i].y + sh x.line.length i a.y b.y⟩ : Spot)] = (alongL x.line a b).take ((i : Int) + 1).toNat := by
      rw [show ((i : Int) + 1).toNat = i + 1 by omega, show (i : Int).toNat = i from rfl, List.take_add_one]
      congr 1
      simp [alongL, alongAt, hi]
    have tx : -17000000 ≤ sh x.line.length i a.x b.x ∧ sh x.line.length i a.x b.x ≤ 17000000 := by unfold sh; split at sx <;> omega
    have ty : -17000000 ≤ sh x.line.length i a.y b.y ∧ sh x.line.length i a.y b.y ≤ 17000000 := by unfold sh; split at sy <;> omega
    refine ⟨⟨by omega, by omega⟩, ⟨by omega, by omega⟩, ⟨by omega, by omega⟩, ⟨by omega, by omega⟩, _, ret_round ⟨by omega, by omega⟩ (by omega) (by omega), ⟨by omega, by omega⟩, ⟨by omega, by omega⟩, ⟨by omega, by omega⟩, _, ret_round ⟨by omega, by omega⟩ (by omega) (by omega), ⟨by omega, by omega⟩, ?_, ?_, ?_, ⟨by omega, by omega⟩, ⟨by omega, by omega, e⟩, by dsimp only; omega⟩
    · show InR (x.line[i].x + sh x.line.length i a.x b.x); exact ⟨by omega, by omega⟩
    · show InR (x.line[i].y + sh x.line.length i a.y b.y); exact ⟨by omega, by omega⟩
    · show Cap 16 ((alongL x.line a b).take (i : Int).toNat ++ [(⟨x.line[i].x + sh x.line.length i a.x b.x, x.line[i].y + sh x.line.length i a.y b.y⟩ : Spot)]).length
      rw [e]; simp only [Cap, List.length_take, alongL_len]; omega
  · rw [List.take_of_length_le (by rw [alongL_len]; omega)]
def smallB (n a : Int) : Bool := decide (-a ≤ n) && decide (n ≤ a)
theorem ret_rwithin1 (n a : Int) (ha : 0 ≤ a ∧ a ≤ 1000000) : Ret Tryz.prog XS 20 [int n, int a] (boo (smallB n a)) :=
  garmentref21_within_W n a _ ⟨⟨by omega, by omega⟩, fun h => by simp [smallB, show -a ≤ n by omega], fun h => by simp [smallB, show ¬ -a ≤ n by omega]⟩
theorem ret_rgraded (p : Piece) (m : Int) (hc : p.corners.length ≤ 1000000) (hn : p.edges.length ≤ 1000000) : Ret Tryz.prog XS 8 [.agg [str p.name, .sl 2 (p.edges.map cEdge), int p.grain, .sl 2 (p.notches.map cNotch), .sl 2 (p.corners.map cSpot), .sl 1 (p.widths.map cI), boo p.match_], int m] (.tup [.fr 2 ((gres p m).map cEdge), int (gerr p m)]) := by
  have out : ∀ e : Int, e ≠ 0 → gerr p m = e → gres p m = [] ∧ gerr p m = e := fun e h he => ⟨by rw [gres, if_neg (by rw [he]; exact h)], he⟩
  refine garmentref21_Graded_W p m (gres p m) (gerr p m)
    (fun v => 0 ≤ v ∧ v ≤ p.corners.length ∧ (-100 ≤ m ∧ m ≤ 100) ∧ p.corners.length = p.edges.length ∧ ∀ j : Nat, (h : j < p.corners.length) → (j : Int) < v → shifted p.corners[j] = true) (fun v => p.corners.length - v.toNat)
    (fun o v => 0 ≤ v ∧ v ≤ p.edges.length ∧ (-100 ≤ m ∧ m ≤ 100) ∧ p.corners.length = p.edges.length ∧ p.corners.all shifted = true ∧ ocheck p.edges = 0 ∧ o = (gradedL p m).take v.toNat) (fun o v => p.edges.length - v.toNat)
    ⟨_, ret_rwithin1 m 100 (by decide), fun h => ⟨fun h2 => ?_, fun h2 => ?_⟩, fun h => ?_⟩ ?_ ?_
  · simp only [smallB, Bool.and_eq_true, decide_eq_true_eq] at h
    exact ⟨by omega, by omega, h, by omega, fun j _ hj => by omega⟩
  · simp only [smallB, Bool.and_eq_true, decide_eq_true_eq] at h
    exact out 1 (by decide) (by rw [gerr, if_neg (by omega), if_pos (by omega)])
  · simp only [smallB, Bool.and_eq_false_iff, decide_eq_false_iff_not] at h
    exact out 3 (by decide) (by rw [gerr, if_pos (by omega)])
  · rintro v ⟨h0, h1, hm, hq, hj⟩
    obtain ⟨i, rfl⟩ : ∃ i : Nat, v = i := ⟨v.toNat, by omega⟩
    refine ⟨fun hlt => ?_, fun hge => ?_⟩
    · have hi : i < p.corners.length := by omega
      rw [ai_get rfl hi]
      have bad : shifted p.corners[i] = false → gres p m = [] ∧ gerr p m = 3 := fun hs => out 3 (by decide) (by
        have : p.corners.all shifted = false := by
          rw [List.all_eq_false]; exact ⟨_, List.getElem_mem hi, by simp [hs]⟩
        rw [gerr, if_neg (by omega), if_neg (by omega), if_pos this])
      refine ⟨⟨h0, by omega⟩, _, ret_rwithin1 _ 1000 (by decide), fun ha => ⟨_, ret_rwithin1 _ 1000 (by decide), fun hb => ⟨⟨by omega, by omega⟩, ⟨by omega, by omega, hm, hq, fun j hj1 hj2 => ?_⟩, by dsimp only; omega⟩, fun hb => bad ?_⟩, fun ha => bad ?_⟩
      · by_cases hji : j = i
        · subst hji
          have ha' : small p.corners[j].x = true := ha
          have hb' : small p.corners[j].y = true := hb
          simp [shifted, ha', hb']
        · exact hj j hj1 (by omega)
      · have hb' : small p.corners[i].y = false := hb
        simp [shifted, hb']
      · have ha' : small p.corners[i].x = false := ha
        simp [shifted, ha']
    · have hall : p.corners.all shifted = true := by
        rw [List.all_eq_true]
        intro q hq'
        obtain ⟨j, hj1, rfl⟩ := List.getElem_of_mem hq'
        exact hj j hj1 (by omega)
      refine ⟨_, ret_rocheck p.edges, fun ho => ⟨by omega, by omega, hm, hq, hall, ho, by simp⟩, fun ho => out _ ho ?_⟩
      rw [gerr, if_neg (by omega), if_neg (by omega), if_neg (by simp [hall]), if_pos ho]
  · rintro o v ⟨h0, h1, hm, hq, hall, ho, rfl⟩
    obtain ⟨i, rfl⟩ : ∃ i : Nat, v = i := ⟨v.toNat, by omega⟩
    obtain ⟨o16, o2, oe, oj, op⟩ := ocheck_inv ho
    refine ⟨fun hlt => ?_, fun hge => ?_⟩
    · have hi : i < p.edges.length := by omega
      have hmd : (i + 1) % p.edges.length < p.corners.length := by rw [hq]; exact Nat.mod_lt _ (by omega)
      have et : ((i : Int) + 1).tmod (((p.edges.length : Nat)) : Int) = (((i + 1) % p.edges.length : Nat) : Int) := tmod_nat (by omega) rfl
      have sm : ∀ q, Sm (mv m (vx p.corners q)) := fun q => mv_box hm (List.all_eq_true.1 hall _ (vx_mem (by omega) q))
      have hck := edge_lines oe p.edges[i] (List.getElem_mem hi)
      have hln := check_len hck
      have hal := ret_rgradedE (x := p.edges[i]) hln.1 hln.2 (check_grid hck) (sm i) (sm (i + 1))
      have eg : (⟨p.edges[i].name, alongL p.edges[i].line (mv m (vx p.corners i)) (mv m (vx p.corners (i + 1)))⟩ : Edge) = gE p m i := by simp [gE, hi]
      have ek : (gradedL p m).take ((i : Int)).toNat ++ [gE p m i] = (gradedL p m).take ((i : Int) + 1).toNat := by
        rw [show ((i : Int) + 1).toNat = i + 1 by omega, show ((i : Int)).toNat = i from rfl, List.take_add_one]
        simp [gradedL, hi]
      have ev : ai p.corners (((i + 1) % p.edges.length : Nat) : Int) = vx p.corners (i + 1) := by rw [ai_vx rfl hmd, ← hq, vx_mod]
      obtain ⟨⟨s1, s2⟩, s3, s4⟩ := sm i
      obtain ⟨⟨u1, u2⟩, u3, u4⟩ := sm (i + 1)
      simp only [mv] at s1 s2 s3 s4 u1 u2 u3 u4
      rw [et, ev, ai_get rfl hi, ai_vx rfl (show i < p.corners.length by omega)]
      refine ⟨⟨h0, by omega⟩, ⟨by omega, by omega⟩, by omega, ⟨by omega, by omega⟩, ⟨h0, hlt⟩, ⟨by omega, by omega⟩, ⟨by omega, by omega⟩, ⟨by omega, by omega⟩, ⟨by omega, by omega⟩, ⟨p.edges[i].name, alongL p.edges[i].line (mv m (vx p.corners i)) (mv m (vx p.corners (i + 1)))⟩, hal, ?_, ⟨by omega, by omega, hm, hq, hall, ho, ?_⟩, by dsimp only; omega⟩
      · rw [eg, ek]; simp only [Cap, List.length_take, gradedL_len]; omega
      · rw [eg, ek]
    · have e1 : (gradedL p m).take ((i : Int)).toNat = gradedL p m := List.take_of_length_le (by rw [gradedL_len]; omega)
      rw [e1]
      have eg : gerr p m = ocheck (gradedL p m) := by rw [gerr, if_neg (by omega), if_neg (by omega), if_neg (by simp [hall]), if_neg (by simp [ho])]
      exact ⟨_, ret_rocheck _, fun hz => ⟨by rw [gres, if_pos (by rw [eg]; exact hz)], by rw [eg]; exact hz⟩, fun hz => out _ hz eg⟩
end Go.Ab
