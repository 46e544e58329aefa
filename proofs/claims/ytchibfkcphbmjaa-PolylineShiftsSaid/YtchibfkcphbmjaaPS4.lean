/- A part of the proof. Conditions: those of each theorem. -/
import Derived.Test.YtchibfkcphbmjaaPS2
set_option linter.unusedVariables false
set_option linter.unusedSimpArgs false
set_option linter.unusedSectionVars false

section
namespace Go.Ab
open Go.Proofs
set_option maxRecDepth 10000
set_option linter.unusedVariables false

theorem pow_range {k : Nat} (h : k ≤ 31) : (1 : Int) ≤ 2 ^ k ∧ (2 : Int) ^ k ≤ 2147483648 := by
  have h1 : 2 ^ k ≤ 2 ^ 31 := Nat.pow_le_pow_right (by decide) h
  have h2 : 1 ≤ 2 ^ k := Nat.one_le_two_pow
  have e : ((2 ^ k : Nat) : Int) = 2 ^ k := by simp
  omega
theorem ret_rroot {n : Int} (h0 : 0 ≤ n) (h1 : n ≤ 9223372036854775807) : Ret Try.prog XS 38 [int n] (int (isq n)) := by
  refine garmentref10_Root_W n _ (fun out k => -1 ≤ k ∧ k ≤ 31 ∧ 0 ≤ out ∧ out * out ≤ n ∧ n < (out + 2 ^ (k + 1).toNat) * (out + 2 ^ (k + 1).toNat) ∧ out + 2 ^ (k + 1).toNat ≤ 4294967296) (fun _ k => (k + 1).toNat) ⟨by omega, by omega, by omega, by omega, ?_, ?_⟩ ?_
  · show n < (0 + 2 ^ 32) * (0 + 2 ^ 32); omega
  · show (0 : Int) + 2 ^ 32 ≤ 4294967296; omega
  · rintro out k ⟨k0, k1, o0, o1, o2, o3⟩
    refine ⟨fun hk => ?_, fun hk => ?_⟩
    · have e : (2 : Int) ^ (k + 1).toNat = 2 * 2 ^ k.toNat := by
        rw [show (k + 1).toNat = k.toNat + 1 by omega, Int.pow_succ, Int.mul_comm]
      have pr := pow_range (k := k.toNat) (by omega)
      rw [e] at o2 o3
      rw [Int.one_mul]
      have b := mul_bound (a := out + 2 ^ k.toNat) (A := 4294967295) (d := out + 2 ^ k.toNat) (D := 4294967295) (by omega) (by omega) (by omega) (by omega)
      have e2 : (k - 1 + 1).toNat = k.toNat := by omega
      refine ⟨⟨by omega, by omega⟩, hk, by omega, ⟨by omega, by omega⟩, ⟨by omega, by omega⟩, ⟨by omega, by omega⟩, ⟨by omega, by omega⟩, ⟨by omega, by omega⟩, fun c => ⟨⟨by omega, by omega⟩, ⟨by omega, by omega, by omega, c, ?_, ?_⟩, by dsimp only; omega⟩, fun c => ⟨⟨by omega, by omega⟩, ⟨by omega, by omega, by omega, o1, ?_, ?_⟩, by dsimp only; omega⟩⟩
      · rw [e2, show out + 2 ^ k.toNat + 2 ^ k.toNat = out + 2 * 2 ^ k.toNat by omega]; exact o2
      · rw [e2]; omega
      · rw [e2]; omega
      · rw [e2]; omega
    · have e : k = -1 := by omega
      subst e
      have o2 : n < (out + 1) * (out + 1) := o2
      exact isq_unique h0 h1 o0 o1 o2 |>.symm ▸ rfl
theorem ret_rseg (p q : Spot) (hp : G p) (hq : G q) : Ret Try.prog XS 34 [.agg [int p.x, int p.y], .agg [int q.x, int q.y]] (int (seg p q)) := by
  have := sq_range hp hq
  exact ret_rsegment hp hq (ret_rroot (by omega) (by omega))

/-! The point at a length. -/
theorem sq_nn (a : Int) : 0 ≤ a * a := by
  rcases Int.le_total 0 a with h | h
  · exact Int.mul_nonneg h h
  · rw [← Int.neg_mul_neg]; exact Int.mul_nonneg (by omega) (by omega)
theorem spot_ne {p q : Spot} (h : ¬ p = q) : ¬ (p.x = q.x ∧ p.y = q.y) := by
  rintro ⟨h1, h2⟩; apply h; cases p; cases q; simp_all
theorem seg_pos {p q : Spot} (hp : G p) (hq : G q) (h : ¬ q = p) : 1000 ≤ seg p q := by
  have h := spot_ne h
  have hs := sq_range hp hq
  have h1 : 1 ≤ sq p q := by
    unfold sq
    have a := sq_nn (q.x - p.x)
    have b := sq_nn (q.y - p.y)
    by_cases c : q.x = p.x
    · have c2 : q.y - p.y ≠ 0 := by omega
      have : (q.y - p.y) * (q.y - p.y) ≠ 0 := Int.mul_ne_zero c2 c2
      omega
    · have c2 : q.x - p.x ≠ 0 := by omega
      have : (q.x - p.x) * (q.x - p.x) ≠ 0 := Int.mul_ne_zero c2 c2
      omega
  obtain ⟨h2, h3, h4⟩ := isq_spec (n := 1000000 * sq p q) (by omega) (by omega)
  apply Classical.byContradiction
  intro hc
  have := sq_mono (a := isq (1000000 * sq p q) + 1) (b := 1000) (by omega) (by unfold seg at hc; omega)
  omega
/-- The point of the segment pq at a from p. -/
def onSeg (p q : Spot) (a : Int) : Spot := ⟨p.x + rdiv (a * (q.x - p.x)) (seg p q), p.y + rdiv (a * (q.y - p.y)) (seg p q)⟩
theorem onSeg_G {p q : Spot} {a : Int} (hp : G p) (hq : G q) (h1 : 0 ≤ a) (h2 : a ≤ seg p q) (h3 : 0 < seg p q) : G (onSeg p q a) := by
  obtain ⟨⟨a1, a2⟩, a3, a4⟩ := hp
  obtain ⟨⟨b1, b2⟩, b3, b4⟩ := hq
  have hx := rdiv_range (d := q.x - p.x) h1 h2 h3
  have hy := rdiv_range (d := q.y - p.y) h1 h2 h3
  refine ⟨?_, ?_⟩
  · simp only [onSeg]
    by_cases c : 0 ≤ q.x - p.x
    · have := hx.1 c; omega
    · have := hx.2 (by omega); omega
  · simp only [onSeg]
    by_cases c : 0 ≤ q.y - p.y
    · have := hy.1 c; omega
    · have := hy.2 (by omega); omega
/-- The end of the segment on which the point at s lies. -/
structure IsIdx (l : List Spot) (s i : Int) : Prop where
  one : 1 ≤ i
  lt : i < l.length
  stop : s ≤ upTo l i ∨ i = l.length - 1
  on : ∀ j, 1 ≤ j → j < i → upTo l j < s
theorem IsIdx.unique {l : List Spot} {s i j : Int} (hi : IsIdx l s i) (hj : IsIdx l s j) : i = j := by
  rcases Int.lt_trichotomy i j with h | h | h
  · have := hj.on i hi.one h
    have := hj.lt
    rcases hi.stop with h | h <;> omega
  · exact h
  · have := hi.on j hj.one h
    have := hi.lt
    rcases hj.stop with h | h <;> omega
theorem IsIdx.exists {l : List Spot} (h : 2 ≤ l.length) (s : Int) : ∃ i, IsIdx l s i := by
  have key : ∀ (n : Nat) (i : Int), 1 ≤ i → i < l.length → (l.length - 1 - i).toNat = n → (∀ j, 1 ≤ j → j < i → upTo l j < s) → ∃ i, IsIdx l s i := by
    intro n
    induction n with
    | zero => exact fun i h0 h1 h2 h3 => ⟨i, h0, h1, .inr (by omega), h3⟩
    | succ n ih =>
      intro i h0 h1 h2 h3
      by_cases hs : s ≤ upTo l i
      · exact ⟨i, h0, h1, .inl hs, h3⟩
      · refine ih (i + 1) (by omega) (by omega) (by omega) fun j j0 j1 => ?_
        by_cases e : j = i
        · subst e; omega
        · exact h3 j j0 (by omega)
  exact key _ 1 (by omega) (by omega) rfl (fun j j0 j1 => by omega)
open Classical in
noncomputable def idx (l : List Spot) (s : Int) : Int := if h : ∃ i, IsIdx l s i then Classical.choose h else 0
theorem idx_is {l : List Spot} (h : 2 ≤ l.length) (s : Int) : IsIdx l s (idx l s) := by
  have e := IsIdx.exists h s
  rw [idx, dif_pos e]; exact Classical.choose_spec e
/-- The point at length s. -/
noncomputable def pt (l : List Spot) (s : Int) : Spot := onSeg (ai l (idx l s - 1)) (ai l (idx l s)) (s - upTo l (idx l s - 1))
structure OnIt (l : List Spot) (s i : Int) : Prop where
  G1 : G (ai l (i - 1))
  G2 : G (ai l i)
  ne : 1000 ≤ seg (ai l (i - 1)) (ai l i)
  lo : 0 ≤ s - upTo l (i - 1)
  hi : s - upTo l (i - 1) ≤ seg (ai l (i - 1)) (ai l i)
  big : seg (ai l (i - 1)) (ai l i) ≤ 2965820801
theorem onIt {l : List Spot} (hl : Line l) {s i : Int} (hs0 : 0 ≤ s) (hs1 : s ≤ total l) (hi : IsIdx l s i) : OnIt l s i := by
  have h0 := hi.one
  have h1 := hi.lt
  have g1 := hl.at (i := i - 1) ⟨by omega, by omega⟩
  have g2 := hl.at (i := i) ⟨by omega, by omega⟩
  have e := upTo_step l h0
  refine ⟨g1, g2, seg_pos g1 g2 fun e => hl.step ⟨i, h0, h1, e⟩, ?_, ?_, (seg_range g1 g2).2⟩
  · by_cases c : i = 1
    · subst c; simp [upTo_zero]; omega
    · have := hi.on (i - 1) (by omega) (by omega); omega
  · rcases hi.stop with h | h
    · omega
    · have : total l = upTo l i := by rw [total, h]
      omega
theorem ret_find {l : List Spot} (hl : Line l) {s : Int} (hs0 : 0 ≤ s) (hs1 : s ≤ total l) : Ret Try.prog XS 23 [.sl 2 (l.map cSpot), int s] (.tup [int (idx l s), .agg [int (pt l s).x, int (pt l s).y]]) := by
  have h40 := hl.forty
  have hi := idx_is hl.two s
  have hi1 := hi.one
  have hilt := hi.lt
  refine polyline_find_W l s _ _ (fun n i => 1 ≤ i ∧ i ≤ idx l s ∧ n = upTo l (i - 1)) (fun n i => (l.length - i).toNat) ⟨by omega, by omega, rfl⟩ ?_
  rintro n i ⟨h0, h1, rfl⟩
  have g1 := hl.at (i := i - 1) ⟨by omega, by omega⟩
  have g2 := hl.at (i := i) ⟨by omega, by omega⟩
  have e := upTo_step l h0
  have r := upTo_range' hl (i := i) (by omega) (by omega)
  have tr := upTo_range' hl (i := (l.length : Int) - 1) (by omega) (by omega)
  have tot : total l = upTo l ((l.length : Int) - 1) := rfl
  refine ⟨⟨by omega, by omega⟩, ⟨by omega, by omega⟩, ⟨by omega, by omega⟩, _, ret_segment g1 g2, ⟨by omega, by omega⟩, ?_⟩
  have fin : i = idx l s → (InR (s - upTo l (i - 1))) ∧ (InR ((ai l i).x - (ai l (i - 1)).x)) ∧ (∃ (part2 : Int), Ret Try.prog XS 32 [int (s - upTo l (i - 1)), int ((ai l i).x - (ai l (i - 1)).x), int (seg (ai l (i - 1)) (ai l i))] (int part2) ∧ (InR ((ai l (i - 1)).x + part2)) ∧ (InR ((ai l i).y - (ai l (i - 1)).y)) ∧ (∃ (part3 : Int), Ret Try.prog XS 32 [int (s - upTo l (i - 1)), int ((ai l i).y - (ai l (i - 1)).y), int (seg (ai l (i - 1)) (ai l i))] (int part3) ∧ (InR ((ai l (i - 1)).y + part3)) ∧ idx l s = i ∧ pt l s = (⟨((ai l (i - 1)).x + part2), ((ai l (i - 1)).y + part3)⟩ : Spot))) := by
    intro ei
    have o := onIt hl hs0 hs1 (ei ▸ hi)
    have gg := onSeg_G g1 g2 o.lo o.hi (by have := o.ne; omega)
    have o1 := o.lo
    have o2 := o.hi
    have o3 := o.ne
    have o4 := o.big
    obtain ⟨⟨x1, x2⟩, x3, x4⟩ := g1
    obtain ⟨⟨y1, y2⟩, y3, y4⟩ := g2
    obtain ⟨⟨z1, z2⟩, z3, z4⟩ := gg
    simp only [onSeg] at z1 z2 z3 z4
    exact ⟨⟨by omega, by omega⟩, ⟨by omega, by omega⟩, _, ret_part o1 o2 (by omega) (by omega) (by omega) o4, ⟨by omega, by omega⟩, ⟨by omega, by omega⟩, _, ret_part o1 o2 (by omega) (by omega) (by omega) o4, ⟨by omega, by omega⟩, ei.symm, by rw [pt, ← ei]; rfl⟩
  refine ⟨fun c => fin ?_, fun c => ⟨⟨by omega, by omega⟩, fun c2 => fin ?_, fun c2 => ?_⟩⟩
  · by_cases ei : i = idx l s
    · exact ei
    · have := hi.on i h0 (by omega); omega
  · omega
  · have : i ≠ idx l s := by
      intro ei
      rcases hi.stop with h | h
      · rw [← ei] at h; omega
      · omega
    exact ⟨⟨by omega, by omega⟩, ⟨by omega, by omega, by rw [← e, show i + 1 - 1 = i by omega]⟩, by dsimp only; omega⟩
theorem ret_locate {l : List Spot} (hl : Line l) {s : Int} (hs0 : 0 ≤ s) (hs1 : s ≤ total l) : Ret Try.prog XS 26 [.sl 2 (l.map cSpot), int s] (.tup [int (idx l s - 1), .agg [int (pt l s).x, int (pt l s).y]]) := by
  have h40 := hl.forty
  have hi := idx_is hl.two s
  have hi1 := hi.one
  have hilt := hi.lt
  refine garmentref10_locate_W l s _ _ (fun i n => 1 ≤ i ∧ i ≤ idx l s ∧ n = upTo l (i - 1)) (fun i n => (l.length - i).toNat) ⟨by omega, by omega, rfl⟩ ?_
  rintro i n ⟨h0, h1, rfl⟩
  have g1 := hl.at (i := i - 1) ⟨by omega, by omega⟩
  have g2 := hl.at (i := i) ⟨by omega, by omega⟩
  have e := upTo_step l h0
  have r := upTo_range' hl (i := i) (by omega) (by omega)
  have tr := upTo_range' hl (i := (l.length : Int) - 1) (by omega) (by omega)
  have tot : total l = upTo l ((l.length : Int) - 1) := rfl
  have fin : i = idx l s → (InR (s - upTo l (i - 1))) ∧ (InR ((ai l i).x - (ai l (i - 1)).x)) ∧ (InR ((s - upTo l (i - 1)) * ((ai l i).x - (ai l (i - 1)).x))) ∧ (∃ (round2 : Int), Ret Try.prog XS 35 [int ((s - upTo l (i - 1)) * ((ai l i).x - (ai l (i - 1)).x)), int (seg (ai l (i - 1)) (ai l i))] (int round2) ∧ (InR ((ai l (i - 1)).x + round2)) ∧ (InR ((ai l i).y - (ai l (i - 1)).y)) ∧ (InR ((s - upTo l (i - 1)) * ((ai l i).y - (ai l (i - 1)).y))) ∧ (∃ (round3 : Int), Ret Try.prog XS 35 [int ((s - upTo l (i - 1)) * ((ai l i).y - (ai l (i - 1)).y)), int (seg (ai l (i - 1)) (ai l i))] (int round3) ∧ (InR ((ai l (i - 1)).y + round3)) ∧ idx l s - 1 = i - 1 ∧ pt l s = (⟨((ai l (i - 1)).x + round2), ((ai l (i - 1)).y + round3)⟩ : Spot))) := by
    intro ei
    have o := onIt hl hs0 hs1 (ei ▸ hi)
    have gg := onSeg_G g1 g2 o.lo o.hi (by have := o.ne; omega)
    have o1 := o.lo
    have o2 := o.hi
    have o3 := o.ne
    have o4 := o.big
    obtain ⟨⟨x1, x2⟩, x3, x4⟩ := g1
    obtain ⟨⟨y1, y2⟩, y3, y4⟩ := g2
    obtain ⟨⟨z1, z2⟩, z3, z4⟩ := gg
    simp only [onSeg] at z1 z2 z3 z4
    have mb : ∀ d : Int, -2097152 ≤ d → d ≤ 2097152 → -6219777024458752 ≤ (s - upTo l (i - 1)) * d ∧ (s - upTo l (i - 1)) * d ≤ 6219777024458752 := by
      intro d d1 d2
      by_cases c : 0 ≤ d
      · have := mul_bound o1 (show s - upTo l (i - 1) ≤ 2965820801 by omega) c d2; omega
      · have := mul_bound o1 (show s - upTo l (i - 1) ≤ 2965820801 by omega) (show 0 ≤ -d by omega) (show -d ≤ 2097152 by omega)
        rw [Int.mul_neg] at this; omega
    have bx := mb ((ai l i).x - (ai l (i - 1)).x) (by omega) (by omega)
    have by' := mb ((ai l i).y - (ai l (i - 1)).y) (by omega) (by omega)
    exact ⟨⟨by omega, by omega⟩, ⟨by omega, by omega⟩, ⟨by omega, by omega⟩, _, ret_round (by omega) (by omega) (by omega) o4, ⟨by omega, by omega⟩, ⟨by omega, by omega⟩, ⟨by omega, by omega⟩, _, ret_round (by omega) (by omega) (by omega) o4, ⟨by omega, by omega⟩, by omega, by rw [pt, ← ei]; rfl⟩
  refine ⟨⟨by omega, by omega⟩, fun c => ?_, fun c => ?_⟩
  · refine ⟨⟨by omega, by omega⟩, ⟨by omega, by omega⟩, ⟨by omega, by omega⟩, _, ret_rseg _ _ g1 g2, ⟨by omega, by omega⟩, fun c2 => ?_, fun c2 => ⟨_, ret_rseg _ _ g1 g2, fin ?_⟩⟩
    · have : i ≠ idx l s := by
        intro ei
        rcases hi.stop with h | h
        · rw [← ei] at h; omega
        · omega
      exact ⟨_, ret_rseg _ _ g1 g2, ⟨by omega, by omega⟩, ⟨by omega, by omega, by rw [← e, show i + 1 - 1 = i by omega]⟩, by dsimp only; omega⟩
    · by_cases ei : i = idx l s
      · exact ei
      · have := hi.on i h0 (by omega); omega
  · exact ⟨⟨by omega, by omega⟩, ⟨by omega, by omega⟩, ⟨by omega, by omega⟩, _, ret_rseg _ _ g1 g2, fin (by omega)⟩
/-- The point at a length, and the error. -/
noncomputable def along (l : List Spot) (s : Int) : Spot × Int :=
  if check l = 0 then (if s < 0 ∨ total l < s then (⟨0, 0⟩, 3) else (pt l s, 0)) else (⟨0, 0⟩, check l)
theorem ret_along (l : List Spot) (s : Int) : Ret Try.prog XS 10 [.sl 2 (l.map cSpot), int s] (.tup [.agg [int (along l s).1.x, int (along l s).1.y], int (along l s).2]) := by
  refine polyline_Along_W l s _ _ ⟨_, _, ret_length l, fun h => ?_, fun h => by rw [along, if_neg h]; exact ⟨rfl, rfl⟩⟩
  have hl := check_zero.1 h
  rw [along, if_pos h, if_pos h]
  refine ⟨fun c => by rw [if_pos (.inl c)]; exact ⟨rfl, rfl⟩, fun c => ⟨fun c2 => by rw [if_pos (.inr c2)]; exact ⟨rfl, rfl⟩, fun c2 => ?_⟩⟩
  rw [if_neg (by omega)]
  exact ⟨_, _, ret_find hl (by omega) (by omega), rfl, rfl⟩
theorem ret_ralong (l : List Spot) (s : Int) : Ret Try.prog XS 11 [.sl 2 (l.map cSpot), int s] (.tup [.agg [int (along l s).1.x, int (along l s).1.y], int (along l s).2]) := by
  refine garmentref10_Along_W l s _ _ ⟨_, ret_rcheck l, fun h => ?_, fun h => by rw [along, if_neg h]; exact ⟨rfl, rfl⟩⟩
  have hl := check_zero.1 h
  rw [along, if_pos h]
  refine ⟨fun c => by rw [if_pos (.inl c)]; exact ⟨rfl, rfl⟩, fun c => ⟨_, ret_total hl ret_rseg, fun c2 => by rw [if_pos (.inr c2)]; exact ⟨rfl, rfl⟩, fun c2 => ?_⟩⟩
  rw [if_neg (by omega)]
  exact ⟨_, _, ret_locate hl (by omega) (by omega), rfl, rfl⟩
theorem ret_alive : Ret Try.prog XS 9 [] (boo true) := exF_sound extS_sound pOk (n := 100) (k := 20) (by kernel_rfl)
theorem law_alongs (l : List Spot) (s : Int) : Ret Try.prog XS 3 [.sl 2 (l.map cSpot), int s] (boo true) := by
  refine garmentlaw10_PolylineAlongs_W l s _ ⟨fun _ => ⟨_, ret_alive, rfl⟩, fun _ => ⟨_, _, ret_along l s, _, _, ret_ralong l s, fun _ => ⟨fun _ => ⟨_, ret_alive, rfl⟩, fun h => absurd rfl h⟩, fun h => absurd rfl h⟩⟩
end Go.Ab
end

section
namespace Go.Ab
open Go.Proofs
set_option maxRecDepth 10000
set_option linter.unusedVariables false

/-- Of equal neighbours one is left. -/
def dd (l : List Spot) : List Spot := l.foldl (fun out s => if out.getLast? = some s then out else out ++ [s]) []
theorem dd_snoc (l : List Spot) (x : Spot) : dd (l ++ [x]) = if (dd l).getLast? = some x then dd l else dd l ++ [x] := by
  unfold dd; rw [List.foldl_append]; rfl
theorem snoc_ind {α : Type} {p : List α → Prop} (h0 : p []) (h1 : ∀ l x, p l → p (l ++ [x])) : ∀ l, p l := by
  intro l
  have key : ∀ (n : Nat) (l : List α), l.length = n → p l := by
    intro n
    induction n with
    | zero => intro l hl; rw [List.length_eq_zero_iff.1 hl]; exact h0
    | succ n ih =>
      intro l hl
      have hne : l ≠ [] := by intro e; rw [e] at hl; cases hl
      rw [← List.dropLast_concat_getLast hne]
      exact h1 _ _ (ih _ (by simp [hl]))
  exact key _ l rfl
theorem dd_last (l : List Spot) : (dd l).getLast? = l.getLast? := by
  refine snoc_ind (p := fun l => (dd l).getLast? = l.getLast?) rfl (fun l x ih => ?_) l
  rw [dd_snoc]
  split
  · rename_i h; rw [h]; simp
  · simp
theorem dd_len (l : List Spot) : (dd l).length ≤ l.length := by
  refine snoc_ind (p := fun l => (dd l).length ≤ l.length) (Nat.le_refl _) (fun l x ih => ?_) l
  rw [dd_snoc]
  split
  · simp; omega
  · simp; omega
theorem dd_snoc' (l : List Spot) (x : Spot) : dd (l ++ [x]) = if l.getLast? = some x then dd l else dd l ++ [x] := by rw [dd_snoc, dd_last]
/-- One vertex is put there twice. -/
def fx (l : List Spot) : List Spot := if l.length = 1 then l ++ l else l
theorem take_snoc {l : List Spot} {v : Int} (h : Idx v l.length) : l.take (v + 1).toNat = l.take v.toNat ++ [ai l v] := by
  have e : (v + 1).toNat = v.toNat + 1 := by omega
  rw [e, List.take_add_one, ai_some h]; rfl
theorem take_all {l : List Spot} {v : Int} (h : v = l.length) : l.take v.toNat = l := by
  rw [List.take_of_length_le (by omega)]
theorem last_ai {l : List Spot} (h : 0 < l.length) : l.getLast? = some (ai l ((l.length : Int) - 1)) := by
  rw [List.getLast?_eq_getElem?]
  have e : ((l.length : Int) - 1).toNat = l.length - 1 := by omega
  rw [← e]; exact ai_some ⟨by omega, by omega⟩
theorem fx_one {l : List Spot} (h : l.length = 1) : fx l = l ++ [ai l 0] := by
  rw [fx, if_pos h]
  match l, h with
  | [a], _ => rfl
theorem ret_single (l : List Spot) (hl : l.length ≤ 1000) : Ret Try.prog XS 27 [.sl 2 (l.map cSpot)] (.fr 2 ((fx (dd l)).map cSpot)) := by
  refine polyline_single_W l _ (fun out v => 0 ≤ v ∧ v ≤ l.length ∧ out = dd (l.take v.toNat)) (fun out v => (l.length - v).toNat) ⟨by omega, by omega, rfl⟩ ?_
  rintro out v ⟨h0, h1, rfl⟩
  have hd := dd_len (l.take v.toNat)
  have hd2 : (l.take v.toNat).length ≤ l.length := List.length_take_le' _ _
  refine ⟨fun hlt => ⟨⟨h0, hlt⟩, fun c => ?_, fun c => ⟨⟨by omega, by omega⟩, ⟨by omega, by omega⟩, fun c2 => ?_, fun c2 => ?_⟩⟩, fun hlt => ?_⟩
  · have e : dd (l.take v.toNat) = [] := List.length_eq_zero_iff.1 (by omega)
    refine ⟨by simp [e], ⟨by omega, by omega⟩, ⟨by omega, by omega, ?_⟩, by dsimp only; omega⟩
    rw [take_snoc ⟨h0, hlt⟩, dd_snoc, e]; rfl
  · refine ⟨⟨by omega, by omega⟩, ⟨by omega, by omega, ?_⟩, by dsimp only; omega⟩
    rw [take_snoc ⟨h0, hlt⟩, dd_snoc, last_ai (by omega), c2, if_pos rfl]
  · refine ⟨by simp; omega, ⟨by omega, by omega⟩, ⟨by omega, by omega, ?_⟩, by dsimp only; omega⟩
    rw [take_snoc ⟨h0, hlt⟩, dd_snoc, last_ai (by omega), if_neg (by intro e; exact c2 (Option.some.inj e))]
  · rw [take_all (l := l) (v := v) (by omega)] at hd ⊢
    refine ⟨fun c => ⟨⟨by omega, by omega⟩, by simp; omega, ?_⟩, fun c => ?_⟩
    · exact fx_one (by omega)
    · rw [fx, if_neg (by omega)]
theorem ret_rpart (l : List Spot) (hl : l.length ≤ 1000) : Ret Try.prog XS 28 [.sl 2 (l.map cSpot)] (.fr 2 ((fx (dd l)).map cSpot)) := by
  refine garmentref10_part_W l _ (fun out v => 0 ≤ v ∧ v ≤ l.length ∧ out = dd (l.take v.toNat)) (fun out v => (l.length - v).toNat) ⟨by omega, by omega, rfl⟩ ?_
  rintro out v ⟨h0, h1, rfl⟩
  have hd := dd_len (l.take v.toNat)
  have hd2 : (l.take v.toNat).length ≤ l.length := List.length_take_le' _ _
  refine ⟨fun hlt => ⟨fun c => ?_, fun c => ⟨⟨h0, hlt⟩, ⟨by omega, by omega⟩, ⟨by omega, by omega⟩, fun c2 => ?_, fun c2 => ?_⟩⟩, fun hlt => ?_⟩
  · subst c
    refine ⟨⟨by omega, by omega⟩, by simp [dd], ⟨by omega, by omega⟩, ⟨by omega, by omega, ?_⟩, by dsimp only; omega⟩
    rw [take_snoc ⟨by omega, hlt⟩, dd_snoc]; rfl
  · have e : (l.take v.toNat).getLast? = some (ai l (v - 1)) := by
      rw [show v = v - 1 + 1 by omega, take_snoc ⟨by omega, by omega⟩]; simp
    refine ⟨⟨by omega, by omega⟩, ⟨by omega, by omega, ?_⟩, by dsimp only; omega⟩
    rw [take_snoc ⟨h0, hlt⟩, dd_snoc', e, c2, if_pos rfl]
  · have e : (l.take v.toNat).getLast? = some (ai l (v - 1)) := by
      rw [show v = v - 1 + 1 by omega, take_snoc ⟨by omega, by omega⟩]; simp
    refine ⟨by simp; omega, ⟨by omega, by omega⟩, ⟨by omega, by omega, ?_⟩, by dsimp only; omega⟩
    rw [take_snoc ⟨h0, hlt⟩, dd_snoc', e, if_neg (by intro e; exact c2 (Option.some.inj e).symm)]
  · rw [take_all (l := l) (v := v) (by omega)] at hd ⊢
    refine ⟨fun c => ⟨⟨by omega, by omega⟩, by simp; omega, ?_⟩, fun c => ?_⟩
    · exact fx_one (by omega)
    · rw [fx, if_neg (by omega)]
noncomputable def cutA (l : List Spot) (s : Int) : List Spot := fx (dd (cut l 0 (idx l s) ++ [pt l s]))
noncomputable def cutB (l : List Spot) (s : Int) : List Spot := fx (dd ([pt l s] ++ cut l (idx l s) l.length))
/-- The two parts, and the error. -/
noncomputable def cuts (l : List Spot) (s : Int) : List Spot × List Spot × Int := if (along l s).2 = 0 then (cutA l s, cutB l s, 0) else ([], [], (along l s).2)
theorem along_zero {l : List Spot} {s : Int} (h : (along l s).2 = 0) : Line l ∧ 0 ≤ s ∧ s ≤ total l ∧ along l s = (pt l s, 0) := by
  unfold along at h ⊢
  split at h
  · rename_i hc
    rw [if_pos hc]
    split at h
    · cases h
    · rename_i hs
      rw [if_neg hs]
      exact ⟨check_zero.1 hc, by omega, by omega, rfl⟩
  · rename_i hc; exact absurd h hc
theorem cut_len {l : List Spot} {a b : Int} : (cut l a b).length ≤ l.length := by
  simp only [cut, List.length_drop, List.length_take]; omega
theorem ret_cut (l : List Spot) (s : Int) : Ret Try.prog XS 12 [.sl 2 (l.map cSpot), int s] (.tup [.fr 2 ((cuts l s).1.map cSpot), .fr 2 ((cuts l s).2.1.map cSpot), int (cuts l s).2.2]) := by
  refine polyline_Cut_W l s _ _ _ ⟨_, _, ret_along l s, fun h => ?_, fun h => by rw [cuts, if_neg h]; exact ⟨rfl, rfl, rfl⟩⟩
  rw [cuts, if_pos h]
  obtain ⟨hl, h0, h1, _⟩ := along_zero h
  have hi := idx_is hl.two s
  have i1 := hi.one
  have i2 := hi.lt
  have h40 := hl.forty
  have c1 := cut_len (l := l) (a := 0) (b := idx l s)
  have c2 := cut_len (l := l) (a := idx l s) (b := l.length)
  exact ⟨_, _, ret_find hl h0 h1, ⟨by omega, by omega, by omega⟩, by simp; omega, by simp; omega, ⟨by omega, by omega, by omega⟩, by simp; omega, _, ret_single _ (by simp; omega), _, ret_single _ (by simp; omega), rfl, rfl, rfl⟩
theorem ret_rcut (l : List Spot) (s : Int) : Ret Try.prog XS 13 [.sl 2 (l.map cSpot), int s] (.tup [.fr 2 ((cuts l s).1.map cSpot), .fr 2 ((cuts l s).2.1.map cSpot), int (cuts l s).2.2]) := by
  refine garmentref10_Cut_W l s _ _ _ ⟨_, ret_rcheck l, fun h => ?_, fun h => ?_⟩
  · have hl := check_zero.1 h
    refine ⟨fun c => ?_, fun c => ⟨_, ret_total hl ret_rseg, fun c2 => ?_, fun c2 => ?_⟩⟩
    · have e : along l s = (⟨0, 0⟩, 3) := by rw [along, if_pos h, if_pos (.inl c)]
      rw [cuts, e]; exact ⟨rfl, rfl, rfl⟩
    · have e : along l s = (⟨0, 0⟩, 3) := by rw [along, if_pos h, if_pos (.inr c2)]
      rw [cuts, e]; exact ⟨rfl, rfl, rfl⟩
    · have e : along l s = (pt l s, 0) := by rw [along, if_pos h, if_neg (by omega)]
      rw [cuts, e, if_pos rfl]
      have hi := idx_is hl.two s
      have i1 := hi.one
      have i2 := hi.lt
      have h40 := hl.forty
      have c1 := cut_len (l := l) (a := 0) (b := idx l s)
      have c2' := cut_len (l := l) (a := idx l s) (b := l.length)
      have ei : idx l s - 1 + 1 = idx l s := by omega
      refine ⟨_, _, ret_locate hl (by omega) (by omega), ?_⟩
      rw [ei]
      exact ⟨⟨by omega, by omega⟩, ⟨by omega, by omega, by omega⟩, by simp; omega, by simp; omega, by simp, ⟨by omega, by omega, by omega⟩, by simp; omega, _, ret_rpart _ (by simp; omega), _, ret_rpart _ (by simp; omega), rfl, rfl, rfl⟩
  · have e : along l s = (⟨0, 0⟩, check l) := by rw [along, if_neg h]
    rw [cuts, e, if_neg h]; exact ⟨rfl, rfl, rfl⟩
theorem fx_len (l : List Spot) : (fx l).length ≤ l.length + 1 := by
  unfold fx; split
  · simp; omega
  · omega
theorem cuts_len (l : List Spot) (s : Int) : (cuts l s).1.length ≤ 1000 ∧ (cuts l s).2.1.length ≤ 1000 := by
  unfold cuts
  split
  · rename_i h
    obtain ⟨hl, _, _, _⟩ := along_zero h
    have h40 := hl.forty
    have c1 := cut_len (l := l) (a := 0) (b := idx l s)
    have c2 := cut_len (l := l) (a := idx l s) (b := l.length)
    have a1 := fx_len (dd (cut l 0 (idx l s) ++ [pt l s]))
    have a2 := dd_len (cut l 0 (idx l s) ++ [pt l s])
    have b1 := fx_len (dd ([pt l s] ++ cut l (idx l s) l.length))
    have b2 := dd_len ([pt l s] ++ cut l (idx l s) l.length)
    simp only [List.length_append, List.length_cons, List.length_nil] at a2 b2
    exact ⟨by show (cutA l s).length ≤ 1000; unfold cutA; omega, by show (cutB l s).length ≤ 1000; unfold cutB; omega⟩
  · simp
theorem law_divides (l : List Spot) (s : Int) : Ret Try.prog XS 4 [.sl 2 (l.map cSpot), int s] (boo true) := by
  have hl := cuts_len l s
  refine garmentlaw10_PolylineDivides_W l s _ ⟨fun _ => ⟨_, ret_alive, rfl⟩, fun _ => ⟨_, _, _, ret_cut l s, _, _, _, ret_rcut l s, _, ret_same _ _ (by omega), fun _ => ⟨_, ret_same _ _ (by omega), fun _ => ⟨fun _ => ⟨_, ret_alive, rfl⟩, fun h => absurd rfl h⟩, fun h => by simp at h⟩, fun h => by simp at h⟩⟩
end Go.Ab
end
