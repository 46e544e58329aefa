/- A part of the proof. Conditions: those of each theorem. -/
import Derived.Test.YtchibfkcphbmjaaPS6
import Derived.Test.YtchibfkcphbmjaaLCutsW
set_option linter.unusedVariables false
set_option linter.unusedSimpArgs false
set_option linter.unusedSectionVars false

namespace Go.Ab
open Go.Proofs
set_option maxRecDepth 10000
set_option linter.unusedVariables false

/-- The length of a part; 0 for one vertex twice. -/
noncomputable def meas (l : List Spot) : Int := if (l.length = 2 ∧ ai l 0 = ai l 1) then 0 else if check l = 0 then total l else -1
theorem ret_measured (l : List Spot) : Ret Try.prog XS 17 [.sl 2 (l.map cSpot)] (int (meas l)) := by
  have hL := ret_length l
  refine garmentlaw10_measured_W l _ ⟨fun h => ⟨⟨by omega, by omega⟩, ⟨by omega, by omega⟩, fun e => ?_, fun e => ⟨_, _, hL, fun c => ?_, fun c => ?_⟩⟩, fun h => ⟨_, _, hL, fun c => ?_, fun c => ?_⟩⟩
  · rw [meas, if_pos ⟨by omega, e⟩]
  · rw [meas, if_neg (fun h => e h.2)]; simp [c]
  · rw [meas, if_neg (fun h => e h.2)]; simp [c]
  · rw [meas, if_neg (fun h' => h (by omega))]; simp [c]
  · rw [meas, if_neg (fun h' => h (by omega))]; simp [c]
theorem ret_near {a b : Int} (ha : -1000000000000 ≤ a ∧ a ≤ 1000000000000) (hb : -1000000000000 ≤ b ∧ b ≤ 1000000000000) (h1 : a - b ≤ 1000) (h2 : b - a ≤ 1000) : Ret Try.prog XS 18 [int a, int b] (boo true) := by
  exact garmentlaw10_near_W a b _ ⟨⟨by omega, by omega⟩, fun _ => ⟨⟨by omega, by omega⟩, (decide_eq_true h2).symm⟩, fun h => absurd h1 h⟩
structure PartA (A : List Spot) (L : List Spot) (p : Spot) : Prop where
  len : meas A = upTo L ((L.length : Int) - 1) + seg (ai L ((L.length : Int) - 1)) p
  two : 2 ≤ A.length
  first : ai A 0 = ai L 0
  last : ai A ((A.length : Int) - 1) = p
theorem line_meas {l : List Spot} (h : Line l) : meas l = total l := by
  rw [meas, if_neg, if_pos (check_zero.2 h)]
  rintro ⟨h1, h2⟩
  exact h.step ⟨1, by omega, by omega, by rw [← h2]; rfl⟩
theorem partA {L : List Spot} {p : Spot} (h1 : 1 ≤ L.length) (h2 : L.length ≤ 39) (hg : ∀ q, q ∈ L → G q) (ha : ¬ Adj L) (hp : G p) : PartA (fx (dd (L ++ [p]))) L p := by
  have hlast := last_ai (l := L) (by omega)
  rw [dd_snoc', dd_same ha]
  by_cases e : ai L ((L.length : Int) - 1) = p
  · rw [hlast, e, if_pos rfl]
    by_cases c : L.length = 1
    · obtain ⟨v, rfl⟩ : ∃ v, L = [v] := by
        match L, c with
        | [v], _ => exact ⟨v, rfl⟩
      have e : v = p := e
      subst e
      refine ⟨?_, by simp [fx], by simp [fx]; rfl, by simp [fx]; rfl⟩
      show meas [v, v] = upTo [v] 0 + seg v v
      rw [meas, if_pos ⟨rfl, rfl⟩, upTo_zero, seg_self]; rfl
    · rw [fx_two (by omega)]
      have hl : Line L := ⟨by omega, by omega, hg, ha⟩
      refine ⟨?_, by omega, rfl, e⟩
      rw [line_meas hl, ← e, seg_self]; simp [total]
  · rw [hlast, if_neg (fun h => e (Option.some.inj h)), fx_two (by simp; omega)]
    have hl : Line (L ++ [p]) := ⟨by simp; omega, by simp; omega, fun q hq => by
      rcases List.mem_append.1 hq with h | h
      · exact hg q h
      · simp at h; subst h; exact hp, adj_to_snoc ha e⟩
    have hlen : ((L ++ [p]).length : Int) - 1 = L.length := by simp
    refine ⟨?_, by simp; omega, by rw [ai_append (by omega), if_pos (by omega)], ?_⟩
    · rw [line_meas hl, total, hlen, upTo_step _ (by omega)]
      have e1 := upTo_alike (l := L) (l' := L ++ [p]) (o := 0) (by omega) (i := (L.length : Int) - 1) (by omega) (fun j j0 j1 => by
        rw [ai_append (by omega), ai_append (by omega), if_pos (by omega), if_pos (by omega), show (0 : Int) + j - 1 = j - 1 by omega, show (0 : Int) + j = j by omega])
      rw [upTo_zero, show (0 : Int) + ((L.length : Int) - 1) = L.length - 1 by omega] at e1
      rw [ai_append (by omega), ai_append (by omega), if_pos (by omega), if_neg (by omega), show (L.length : Int) - L.length = 0 by omega, ai_one]
      omega
    · rw [hlen, ai_append (by omega), if_neg (by omega), show (L.length : Int) - L.length = 0 by omega, ai_one]
structure PartB (B : List Spot) (L : List Spot) (p : Spot) : Prop where
  len : meas B = seg p (ai L 0) + upTo L ((L.length : Int) - 1)
  two : 2 ≤ B.length
  first : ai B 0 = p
  last : ai B ((B.length : Int) - 1) = ai L ((L.length : Int) - 1)
theorem partB {L : List Spot} {p : Spot} (h1 : 1 ≤ L.length) (h2 : L.length ≤ 39) (hg : ∀ q, q ∈ L → G q) (ha : ¬ Adj L) (hp : G p) : PartB (fx (dd ([p] ++ L))) L p := by
  by_cases e : p = ai L 0
  · rw [dd_cons_eq (by omega) e, dd_same ha]
    by_cases c : L.length = 1
    · obtain ⟨v, rfl⟩ : ∃ v, L = [v] := by
        match L, c with
        | [v], _ => exact ⟨v, rfl⟩
      have e : p = v := e
      subst e
      refine ⟨?_, by simp [fx], by simp [fx]; rfl, by simp [fx]; rfl⟩
      show meas [p, p] = seg p p + upTo [p] 0
      rw [meas, if_pos ⟨rfl, rfl⟩, upTo_zero, seg_self]; rfl
    · rw [fx_two (by omega)]
      have hl : Line L := ⟨by omega, by omega, hg, ha⟩
      refine ⟨?_, by omega, e.symm, rfl⟩
      rw [line_meas hl, ← e, seg_self]; simp [total]
  · have hna := adj_to_cons ha e
    rw [dd_same hna, fx_two (by simp; omega)]
    have hl : Line ([p] ++ L) := ⟨by simp; omega, by simp; omega, fun q hq => by
      rcases List.mem_append.1 hq with h | h
      · simp at h; subst h; exact hp
      · exact hg q h, hna⟩
    have hlen : (([p] ++ L).length : Int) - 1 = L.length := by simp
    have one : (([p] : List Spot).length : Int) = 1 := rfl
    refine ⟨?_, by simp; omega, rfl, ?_⟩
    · rw [line_meas hl, total, hlen]
      have e1 := upTo_alike (l := L) (l' := [p] ++ L) (o := 1) (by omega) (i := (L.length : Int) - 1) (by omega) (fun j j0 j1 => by
        rw [ai_append (by omega), ai_append (by omega), one, if_neg (by omega), if_neg (by omega), show (1 : Int) + j - 1 - 1 = j - 1 by omega, show (1 : Int) + j - 1 = j by omega])
      have e2 := upTo_step ([p] ++ L) (i := 1) (by omega)
      rw [show (1 : Int) - 1 = 0 by omega, upTo_zero, ai_append (by omega), ai_append (by omega), one, if_pos (by omega), if_neg (by omega), ai_one, show (1 : Int) - 1 = 0 by omega] at e2
      rw [show (1 : Int) + ((L.length : Int) - 1) = L.length by omega] at e1
      omega
    · rw [hlen, ai_append (by omega), one, if_neg (by omega)]
theorem tmod_range {a n : Int} (h0 : 0 ≤ a) (h1 : 0 ≤ n) : 0 ≤ a.tmod (n + 1) ∧ a.tmod (n + 1) ≤ n := by
  rw [Int.tmod_eq_emod_of_nonneg h0]
  have := Int.emod_nonneg a (show n + 1 ≠ 0 by omega)
  have := Int.emod_lt_of_pos a (show 0 < n + 1 by omega)
  omega
theorem total_range {l : List Spot} (h : Line l) : 1000 ≤ total l ∧ total l ≤ 118632832040 := by
  have h2 := h.two
  have r := upTo_range' h (i := (l.length : Int) - 1) (by omega) (by omega)
  have m := upTo_mono h (i := 1) (j := (l.length : Int) - 1) (by omega) (by omega) (by omega)
  have s := upTo_step l (i := 1) (by omega)
  have g1 := h.at (i := 0) ⟨by omega, by omega⟩
  have g2 := h.at (i := 1) ⟨by omega, by omega⟩
  have := seg_pos g1 g2 fun e => h.step ⟨1, by omega, by omega, by rw [e]; rfl⟩
  rw [show (1 : Int) - 1 = 0 by omega, upTo_zero] at s
  unfold total
  omega
theorem along_in {l : List Spot} (h : Line l) {s : Int} (h0 : 0 ≤ s) (h1 : s ≤ total l) : along l s = (pt l s, 0) := by
  rw [along, if_pos (check_zero.2 h), if_neg (by omega)]
theorem cuts_in {l : List Spot} (h : Line l) {s : Int} (h0 : 0 ≤ s) (h1 : s ≤ total l) : cuts l s = (cutA l s, cutB l s, 0) := by
  rw [cuts, along_in h h0 h1, if_pos rfl]
structure Parts (l : List Spot) (s : Int) : Prop where
  A : PartA (cutA l s) (cut l 0 (idx l s)) (pt l s)
  B : PartB (cutB l s) (cut l (idx l s) l.length) (pt l s)
  on : OnIt l s (idx l s)
  g : G (pt l s)
theorem parts {l : List Spot} (h : Line l) {s : Int} (h0 : 0 ≤ s) (h1 : s ≤ total l) : Parts l s := by
  have hi := idx_is h.two s
  have i1 := hi.one
  have i2 := hi.lt
  have h40 := h.forty
  have o := onIt h h0 h1 hi
  have gp : G (pt l s) := onSeg_G o.G1 o.G2 o.lo o.hi (by have := o.ne; omega)
  have s1 : Slc 0 (idx l s) l.length := ⟨by omega, by omega, by omega⟩
  have s2 : Slc (idx l s) l.length l.length := ⟨by omega, by omega, by omega⟩
  have l1 := cut_length s1
  have l2 := cut_length s2
  exact ⟨partA (by omega) (by omega) (grid_cut h.grid) (adj_cut h.step s1) gp, partB (by omega) (by omega) (grid_cut h.grid) (adj_cut h.step s2) gp, o, gp⟩
theorem law_cuts (l : List Spot) (a : Int) (ha : InU32 a) : Ret Try.prog XS 5 [.sl 2 (l.map cSpot), .sc (.int .u32 a)] (boo true) := by
  refine garmentlaw10_PolylineCuts_W l a _ ⟨fun _ => ⟨_, ret_alive, rfl⟩, fun _ => ⟨_, _, ret_length l, fun hc => ?_, fun hc => ⟨_, ret_check l, fun _ => ⟨_, ret_alive, rfl⟩, fun h => absurd rfl h⟩⟩⟩
  have hl := check_zero.1 hc
  rw [if_pos hc]
  have tr := total_range hl
  have sr := tmod_range ha.1 (show 0 ≤ total l by omega)
  refine ⟨fun h => by omega, fun _ => ⟨⟨by have := ha.1; omega, by have := ha.2; omega⟩, ⟨by omega, by omega⟩, by omega, ?_⟩⟩
  generalize a.tmod (total l + 1) = s at sr ⊢
  have pp := parts hl sr.1 sr.2
  have hi := idx_is hl.two s
  have i1 := hi.one
  have i2 := hi.lt
  have h40 := hl.forty
  have s1 : Slc 0 (idx l s) l.length := ⟨by omega, by omega, by omega⟩
  have s2 : Slc (idx l s) l.length l.length := ⟨by omega, by omega, by omega⟩
  have l1 := cut_length s1
  have l2 := cut_length s2
  have A2 := pp.A.two
  have B2 := pp.B.two
  have cl := cuts_len l s
  have c1 := ret_cut l s
  have al := ret_along l s
  rw [cuts_in hl sr.1 sr.2] at c1 cl
  rw [along_in hl sr.1 sr.2] at al
  have mA := pp.A.len
  have mB := pp.B.len
  rw [l1, show (((idx l s - 0).toNat : Nat) : Int) - 1 = idx l s - 1 by omega, upTo_cut s1 (by omega) (by omega), ai_cut s1 (by omega) (by omega), upTo_zero, show (0 : Int) + (idx l s - 1) = idx l s - 1 by omega] at mA
  rw [l2, show ((((l.length : Int) - idx l s).toNat : Nat) : Int) - 1 = l.length - idx l s - 1 by omega, upTo_cut s2 (by omega) (by omega), ai_cut s2 (by omega) (by omega), show idx l s + 0 = idx l s by omega, show idx l s + ((l.length : Int) - idx l s - 1) = l.length - 1 by omega] at mB
  have o := pp.on
  have n1 := near_from o.G1 o.G2 o.ne o.lo o.hi
  have n2 := near_to o.G1 o.G2 o.ne o.lo o.hi
  have st := upTo_step l i1
  have tt : total l = upTo l ((l.length : Int) - 1) := rfl
  have eP : pt l s = onSeg (ai l (idx l s - 1)) (ai l (idx l s)) (s - upTo l (idx l s - 1)) := rfl
  rw [← eP] at n1 n2
  have u0 := upTo_range' hl (i := idx l s) (by omega) (by omega)
  have r1 := (seg_range o.G1 pp.g).1
  have r2 := (seg_range pp.g o.G2).1
  have m1 := upTo_mono hl (i := idx l s) (j := (l.length : Int) - 1) (by omega) (by omega) (by omega)
  have u1 := upTo_range' hl (i := idx l s - 1) (by omega) (by omega)
  have e1 : ai (cutA l s) 0 = ai l 0 := by rw [pp.A.first, ai_cut s1 (by omega) (by omega)]; rfl
  have e2 : ai (cutB l s) (((cutB l s).length : Int) - 1) = ai l ((l.length : Int) - 1) := by
    rw [pp.B.last, l2, ai_cut s2 (by omega) (by omega)]; congr 1; omega
  refine ⟨_, _, al, _, _, _, c1, fun _ => ⟨fun _ => ⟨fun h => by dsimp only at h; omega, fun _ => ⟨fun h => by dsimp only at h; omega, fun _ => ⟨⟨by omega, by dsimp only; omega⟩, ⟨by omega, by omega⟩, fun _ => ⟨⟨by dsimp only; omega, by dsimp only at cl ⊢; omega⟩, ⟨by dsimp only; omega, by dsimp only; omega⟩, fun _ => ⟨⟨by omega, by dsimp only; omega⟩, fun _ => ⟨⟨by dsimp only; omega, by dsimp only at cl ⊢; omega⟩, ⟨by dsimp only; omega, by dsimp only; omega⟩, ⟨by omega, by omega⟩, ⟨by omega, by omega⟩, fun _ => ⟨_, ret_measured _, _, ret_measured _, fun _ => ⟨fun _ => ⟨_, ret_near ?_ ?_ ?_ ?_, fun _ => ⟨⟨by omega, by omega⟩, _, ret_near ?_ ?_ ?_ ?_, fun _ => ⟨_, ret_alive, rfl⟩, fun h => by cases h⟩, fun h => by cases h⟩, fun h => ?_⟩, fun h => ?_⟩, fun h => absurd e2 h⟩, fun h => absurd pp.B.first h⟩, fun h => absurd pp.A.last h⟩, fun h => absurd e1 h⟩⟩⟩, fun h => absurd rfl h⟩, fun h => absurd rfl h⟩
  all_goals (dsimp only at *; omega)
end Go.Ab
