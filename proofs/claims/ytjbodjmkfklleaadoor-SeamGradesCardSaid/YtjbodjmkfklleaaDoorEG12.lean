/- Chapter 21: sides of polygons. -/
import Derived.Test.YtjbodjmkfklleaaDoorES2
import Derived.Test.YtjbodjmkfklleaaDoorEN2
import Derived.Test.YtjbodjmkfklleaaDoorEWall
set_option linter.unusedVariables false
set_option linter.unusedSimpArgs false
set_option linter.unusedSectionVars false

section
namespace Go.Ab
open Go.Proofs
set_option maxRecDepth 10000
set_option linter.unusedVariables false

/-- Coordinates that no product of differences leaves the machine's range by. -/
def M (p : Spot) : Prop := (-16777216 ≤ p.x ∧ p.x ≤ 16777216) ∧ -16777216 ≤ p.y ∧ p.y ≤ 16777216
theorem G.M {p : Spot} (h : G p) : M p := by obtain ⟨⟨a, b⟩, c, d⟩ := h; exact ⟨⟨by omega, by omega⟩, by omega, by omega⟩
def tn (a b c : Spot) : Int := (b.x - a.x) * (c.y - b.y) - (b.y - a.y) * (c.x - b.x)
theorem mul_box {a b K L : Int} (h1 : -K ≤ a) (h2 : a ≤ K) (h3 : -L ≤ b) (h4 : b ≤ L) : -(K * L) ≤ a * b ∧ a * b ≤ K * L := by
  have p1 := Int.mul_nonneg (show 0 ≤ K - a by omega) (show 0 ≤ L - b by omega)
  have p2 := Int.mul_nonneg (show 0 ≤ K + a by omega) (show 0 ≤ L + b by omega)
  have p3 := Int.mul_nonneg (show 0 ≤ K - a by omega) (show 0 ≤ L + b by omega)
  have p4 := Int.mul_nonneg (show 0 ≤ K + a by omega) (show 0 ≤ L - b by omega)
  simp only [Int.sub_mul, Int.mul_sub, Int.add_mul, Int.mul_add] at p1 p2 p3 p4
  constructor <;> omega
theorem ret_turn {a b c : Spot} (ha : M a) (hb : M b) (hc : M c) : Ret Tryd.prog XS 61 [.agg [int a.x, int a.y], .agg [int b.x, int b.y], .agg [int c.x, int c.y]] (int (tn a b c)) := by
  obtain ⟨⟨a1, a2⟩, a3, a4⟩ := ha
  obtain ⟨⟨b1, b2⟩, b3, b4⟩ := hb
  obtain ⟨⟨c1, c2⟩, c3, c4⟩ := hc
  have p := mul_box (a := b.x - a.x) (b := c.y - b.y) (K := 33554432) (L := 33554432) (by omega) (by omega) (by omega) (by omega)
  have q := mul_box (a := b.y - a.y) (b := c.x - b.x) (K := 33554432) (L := 33554432) (by omega) (by omega) (by omega) (by omega)
  exact polygon_turn_W a b c _ ⟨⟨by omega, by omega⟩, ⟨by omega, by omega⟩, ⟨by omega, by omega⟩, ⟨by omega, by omega⟩, ⟨by omega, by omega⟩, ⟨by omega, by omega⟩, ⟨by omega, by omega⟩, rfl⟩
def wi (n a b : Int) : Bool := decide (min a b ≤ n) && decide (n ≤ max a b)
theorem ret_within (n a b : Int) : Ret Tryd.prog XS 62 [int n, int a, int b] (boo (wi n a b)) :=
  polygon_within_W n a b _ ⟨fun h => by simp [wi, h], fun h => by simp [wi, h]⟩
def hold (a b q : Spot) : Bool := decide (tn a b q = 0) && (wi q.x a.x b.x && wi q.y a.y b.y)
theorem ret_holds {s : PolygonSide} {q : Spot} (ha : M s.a) (hb : M s.b) (hq : M q) : Ret Tryd.prog XS 57 [.agg [int s.a.x, int s.a.y, int s.b.x, int s.b.y], .agg [int q.x, int q.y]] (boo (hold s.a s.b q)) := by
  refine polygon_side_holds_W s q _ ⟨tn s.a s.b q, ret_turn ha hb hq, fun h => ⟨_, ret_within q.x s.a.x s.b.x, fun h1 => ⟨_, ret_within q.y s.a.y s.b.y, ?_⟩, fun h1 => ?_⟩, fun h => ?_⟩
  · simp [hold, h, h1]
  · simp [hold, h1]
  · simp [hold, h]
def divi (a b p q : Spot) : Bool := (decide (tn a b p < 0) && decide (tn a b q > 0)) || (decide (tn a b p > 0) && decide (tn a b q < 0))
theorem ret_divides {s : PolygonSide} {p q : Spot} (ha : M s.a) (hb : M s.b) (hp : M p) (hq : M q) : Ret Tryd.prog XS 63 [.agg [int s.a.x, int s.a.y, int s.b.x, int s.b.y], .agg [int p.x, int p.y], .agg [int q.x, int q.y]] (boo (divi s.a s.b p q)) := by
  refine polygon_side_divides_W s p q _ ⟨_, ret_turn ha hb hp, _, ret_turn ha hb hq, fun h => ⟨fun h1 => ?_, fun h1 => ⟨fun h2 => ?_, fun h2 => ?_⟩⟩, fun h => ⟨fun h1 => ?_, fun h1 => ?_⟩⟩
  · simp [divi, h, h1]
  · omega
  · simp only [divi, h1, h2, decide_false, Bool.and_false, Bool.false_and, Bool.or_false]
  · simp only [divi, h, h1, decide_false, decide_true, Bool.false_and, Bool.false_or, Bool.true_and]
  · simp only [divi, h, h1, decide_false, Bool.false_and, Bool.or_false]
def meet (a b c d : Spot) : Bool := hold a b c || (hold a b d || (hold c d a || (hold c d b || (divi a b c d && divi c d a b))))
theorem ret_meets {s t : PolygonSide} (ha : M s.a) (hb : M s.b) (hc : M t.a) (hd : M t.b) : Ret Tryd.prog XS 58 [.agg [int s.a.x, int s.a.y, int s.b.x, int s.b.y], .agg [int t.a.x, int t.a.y, int t.b.x, int t.b.y]] (boo (meet s.a s.b t.a t.b)) := by
  refine polygon_side_meets_W s t _ ⟨_, ret_holds ha hb hc, fun h1 => ?_, fun h1 => ⟨_, ret_holds ha hb hd, fun h2 => ?_, fun h2 => ⟨_, ret_holds hc hd ha, fun h3 => ?_, fun h3 => ⟨_, ret_holds hc hd hb, fun h4 => ?_, fun h4 => ⟨_, ret_divides ha hb hc hd, fun h5 => ⟨_, ret_divides hc hd ha hb, ?_⟩, fun h5 => ?_⟩⟩⟩⟩⟩
  · simp [meet, h1]
  · simp [meet, h2]
  · simp [meet, h3]
  · simp [meet, h4]
  · simp [meet, h1, h2, h3, h4, h5]
  · simp [meet, h1, h2, h3, h4, h5]
end Go.Ab
end

section
namespace Go.Ab
open Go.Proofs
set_option maxRecDepth 10000
set_option linter.unusedVariables false

/-- The vertex at i, round and round. -/
def vx (p : List Spot) (i : Nat) : Spot := (p[i % p.length]?).getD default
def sideAt (p : List Spot) (i : Nat) : PolygonSide := ⟨vx p i, vx p (i + 1)⟩
def sidesL (p : List Spot) : List PolygonSide := (List.range p.length).map (sideAt p)
theorem sidesL_len (p : List Spot) : (sidesL p).length = p.length := by simp [sidesL]
theorem vx_lt {p : List Spot} {i : Nat} (h : i < p.length) : vx p i = p[i] := by
  simp [vx, Nat.mod_eq_of_lt h, h]
theorem vx_mem {p : List Spot} (h : 0 < p.length) (i : Nat) : vx p i ∈ p := by
  have hm : i % p.length < p.length := Nat.mod_lt _ h
  simp only [vx, List.getElem?_eq_getElem hm, Option.getD_some]
  exact List.getElem_mem hm
theorem vx_mod (p : List Spot) (i : Nat) : vx p (i % p.length) = vx p i := by simp [vx]
theorem ai_vx {p : List Spot} {v : Int} {i : Nat} (e : v = i) (h : i < p.length) : ai p v = vx p i := by rw [ai_get e h, vx_lt h]
theorem tmod_nat {a b : Int} {i n : Nat} (e : a = i) (h : b = n) : a.tmod b = ((i % n : Nat) : Int) := by
  subst e h; rfl
theorem sideAt_mod (p : List Spot) (i : Nat) : sideAt p (i % p.length) = sideAt p i := by simp [sideAt, vx]
theorem ai_side {p : List Spot} {v : Int} {i : Nat} (e : v = i) (h : i < p.length) : ai (sidesL p) v = sideAt p i := by
  rw [ai_get e (by rw [sidesL_len]; exact h)]; simp [sidesL]

theorem ret_sides (p : List Spot) (hn : p.length ≤ 1000000) : Ret Tryd.prog XS 56 [.sl 2 (p.map cSpot)] (.fr 4 ((sidesL p).map cPolygonSide)) := by
  refine polygon_sides_W p (sidesL p) (fun v w => 0 ≤ v ∧ v ≤ p.length ∧ w.length = p.length ∧ ∀ j : Nat, (j : Int) < v → w[j]? = some (sideAt p j)) (fun v w => p.length - v.toNat) ⟨by omega, by omega, by omega, by omega, by omega, by simp, fun j hj => by omega⟩ ?_
  rintro v w ⟨h0, h1, h2, h3⟩
  obtain ⟨i, rfl⟩ : ∃ i : Nat, v = i := ⟨v.toNat, by omega⟩
  refine ⟨fun hlt => ?_, fun hge => ?_⟩
  · have hi : i < p.length := by omega
    have hm : (i + 1) % p.length < p.length := Nat.mod_lt _ (by omega)
    have e1 : ((i : Int) + 1).tmod (p.length : Int) = (((i + 1) % p.length : Nat) : Int) := tmod_nat (by omega) rfl
    refine ⟨⟨by omega, by omega⟩, ⟨by omega, by omega⟩, by omega, ?_, ⟨by omega, by omega⟩, ⟨by omega, by omega, by simpa using h2, fun j hj => ?_⟩, by dsimp only; omega⟩
    · rw [e1]; exact ⟨by omega, by omega⟩
    · rw [e1, ai_vx rfl hi, ai_vx rfl hm, vx_mod, show ((i : Int).toNat) = i from rfl, List.getElem?_set]
      split
      · rename_i e; subst e; rw [if_pos (by omega)]; rfl
      · exact h3 j (by omega)
  · refine List.ext_getElem? fun j => ?_
    by_cases hj : j < p.length
    · rw [h3 j (by omega)]; simp [sidesL, hj]
    · rw [List.getElem?_eq_none (by rw [sidesL_len]; omega), List.getElem?_eq_none (by omega)]

/-- What a simple polygon is. -/
def Simple (p : List Spot) : Prop := ∀ i, i < p.length → vx p i ≠ vx p (i + 1) ∧ hold (vx p i) (vx p (i + 1)) (vx p (i + 2)) = false ∧ hold (vx p (i + 1)) (vx p (i + 2)) (vx p i) = false ∧
  ∀ k, i + 2 ≤ k → k < p.length → ¬ (i = 0 ∧ k = p.length - 1) → meet (vx p i) (vx p (i + 1)) (vx p k) (vx p (k + 1)) = false
open Classical in
noncomputable def simpleB (p : List Spot) : Bool := decide (Simple p)
theorem simpleB_f {p : List Spot} {i : Nat} (hi : i < p.length) (h : ¬ (vx p i ≠ vx p (i + 1) ∧ hold (vx p i) (vx p (i + 1)) (vx p (i + 2)) = false ∧ hold (vx p (i + 1)) (vx p (i + 2)) (vx p i) = false ∧
    ∀ k, i + 2 ≤ k → k < p.length → ¬ (i = 0 ∧ k = p.length - 1) → meet (vx p i) (vx p (i + 1)) (vx p k) (vx p (k + 1)) = false)) : simpleB p = false := by
  unfold simpleB
  rw [decide_eq_false_iff_not]
  exact fun hs => h (hs i hi)

theorem ret_simple (p : List Spot) (hM : ∀ q, q ∈ p → M q) (h3 : 3 ≤ p.length) (hn : p.length ≤ 1000000) : Ret Tryd.prog XS 52 [.sl 2 (p.map cSpot)] (boo (simpleB p)) := by
  have hv : ∀ i, M (vx p i) := fun i => hM _ (vx_mem (by omega) i)
  refine polygon_simple_W p (simpleB p)
    (fun l v => l = sidesL p ∧ 0 ≤ v ∧ v ≤ p.length ∧ ∀ i : Nat, (i : Int) < v → vx p i ≠ vx p (i + 1) ∧ hold (vx p i) (vx p (i + 1)) (vx p (i + 2)) = false ∧ hold (vx p (i + 1)) (vx p (i + 2)) (vx p i) = false ∧
      ∀ k, i + 2 ≤ k → k < p.length → ¬ (i = 0 ∧ k = p.length - 1) → meet (vx p i) (vx p (i + 1)) (vx p k) (vx p (k + 1)) = false) (fun l v => p.length - v.toNat)
    (fun l v k => l = sidesL p ∧ 0 ≤ v ∧ v < p.length ∧ v + 2 ≤ k ∧ (∀ i : Nat, (i : Int) < v → vx p i ≠ vx p (i + 1) ∧ hold (vx p i) (vx p (i + 1)) (vx p (i + 2)) = false ∧ hold (vx p (i + 1)) (vx p (i + 2)) (vx p i) = false ∧
      ∀ k, i + 2 ≤ k → k < p.length → ¬ (i = 0 ∧ k = p.length - 1) → meet (vx p i) (vx p (i + 1)) (vx p k) (vx p (k + 1)) = false) ∧
      (∀ i : Nat, (i : Int) = v → vx p i ≠ vx p (i + 1) ∧ hold (vx p i) (vx p (i + 1)) (vx p (i + 2)) = false ∧ hold (vx p (i + 1)) (vx p (i + 2)) (vx p i) = false ∧
      ∀ j : Nat, i + 2 ≤ j → (j : Int) < k → j < p.length → ¬ (i = 0 ∧ j = p.length - 1) → meet (vx p i) (vx p (i + 1)) (vx p j) (vx p (j + 1)) = false)) (fun l v k => p.length + 2 - k.toNat)
    ⟨sidesL p, ret_sides p hn, rfl, by omega, by omega, fun i hi => by omega⟩ ?_ ?_
  · rintro l v ⟨rfl, h0, h1, h2⟩
    obtain ⟨i, rfl⟩ : ∃ i : Nat, v = i := ⟨v.toNat, by omega⟩
    refine ⟨fun hlt => ?_, fun hge => ?_⟩
    · rw [sidesL_len] at hlt
      have hi : i < p.length := by omega
      have hm : (i + 1) % p.length < p.length := Nat.mod_lt _ (by omega)
      have e0 : ai (sidesL p) (i : Int) = sideAt p i := ai_side rfl hi
      have et : ((i : Int) + 1).tmod (((sidesL p).length : Nat) : Int) = (((i + 1) % p.length : Nat) : Int) := tmod_nat (by omega) (by rw [sidesL_len])
      have e1 : ai (sidesL p) (((i : Int) + 1).tmod (((sidesL p).length : Nat) : Int)) = sideAt p (i + 1) := by rw [et, ai_side rfl hm, sideAt_mod]
      rw [et] at e1
      rw [et, e0, e1, sidesL_len]
      refine ⟨⟨by omega, by omega⟩, fun he => simpleB_f hi fun hh => hh.1 he, fun hne => ⟨⟨by omega, by omega⟩, by omega, ⟨by omega, by omega⟩, _, ret_holds (hv _) (hv _) (hv _), fun h => simpleB_f hi fun hh => ?_, fun h => ⟨_, ret_holds (hv _) (hv _) (hv _), fun h' => simpleB_f hi fun hh => ?_, fun h' => ⟨⟨by omega, by omega⟩, rfl, h0, hlt, by omega, h2, fun j hj => ?_⟩⟩⟩⟩
      · have := hh.2.1; rw [show hold (vx p i) (vx p (i + 1)) (vx p (i + 2)) = true from h] at this; cases this
      · have := hh.2.2.1; rw [show hold (vx p (i + 1)) (vx p (i + 2)) (vx p i) = true from h'] at this; cases this
      · obtain rfl : j = i := by omega
        exact ⟨hne, h, h', fun k hk hk2 => by omega⟩
    · rw [sidesL_len] at hge
      have : Simple p := fun j hj => h2 j (by omega)
      simp [simpleB, this]
  · rintro l v k ⟨rfl, h0, h1, hk, h2, h4⟩
    obtain ⟨i, rfl⟩ : ∃ i : Nat, v = i := ⟨v.toNat, by omega⟩
    obtain ⟨m, rfl⟩ : ∃ m : Nat, k = m := ⟨k.toNat, by omega⟩
    have hi : i < p.length := by omega
    have e0 : ai (sidesL p) (i : Int) = sideAt p i := ai_side rfl hi
    have next : ∀ (hlt : (m : Int) < p.length), (¬ (i = 0 ∧ m = p.length - 1) → meet (vx p i) (vx p (i + 1)) (vx p m) (vx p (m + 1)) = false) →
        (∀ j : Nat, (j : Int) = i → vx p j ≠ vx p (j + 1) ∧ hold (vx p j) (vx p (j + 1)) (vx p (j + 2)) = false ∧ hold (vx p (j + 1)) (vx p (j + 2)) (vx p j) = false ∧
          ∀ q : Nat, j + 2 ≤ q → (q : Int) < (m : Int) + 1 → q < p.length → ¬ (j = 0 ∧ q = p.length - 1) → meet (vx p j) (vx p (j + 1)) (vx p q) (vx p (q + 1)) = false) := by
      intro hlt hmm j hj
      obtain rfl : j = i := by omega
      obtain ⟨a1, a2, a3, a4⟩ := h4 j rfl
      refine ⟨a1, a2, a3, fun q hq hq2 hq3 hq4 => ?_⟩
      by_cases hqm : q = m
      · subst hqm; exact hmm hq4
      · exact a4 q hq (by omega) hq3 hq4
    refine ⟨fun hlt => ?_, fun hge => ?_⟩
    · rw [sidesL_len] at hlt
      have hml : m < p.length := by omega
      have e1 : ai (sidesL p) (m : Int) = sideAt p m := ai_side rfl hml
      have hmeet : Ret Tryd.prog XS 58 [.agg [int (sideAt p i).a.x, int (sideAt p i).a.y, int (sideAt p i).b.x, int (sideAt p i).b.y], .agg [int (sideAt p m).a.x, int (sideAt p m).a.y, int (sideAt p m).b.x, int (sideAt p m).b.y]] (boo (meet (vx p i) (vx p (i + 1)) (vx p m) (vx p (m + 1)))) := ret_meets (hv _) (hv _) (hv _) (hv _)
      rw [e0, e1, sidesL_len]
      refine ⟨fun hz => ⟨⟨by omega, by omega⟩, fun hl => ?_, fun hl => ⟨⟨by omega, by omega⟩, _, hmeet, fun hb => ?_, fun hb => ?_⟩⟩, fun hz => ⟨⟨by omega, by omega⟩, _, hmeet, fun hb => ?_, fun hb => ?_⟩⟩
      · exact ⟨⟨by omega, by omega⟩, ⟨rfl, h0, h1, by omega, h2, next hlt fun hn => absurd ⟨by omega, by omega⟩ hn⟩, by dsimp only; omega⟩
      · exact simpleB_f hi fun hh => by have := hh.2.2.2 m (by omega) hml (by omega); rw [hb] at this; cases this
      · exact ⟨⟨by omega, by omega⟩, ⟨rfl, h0, h1, by omega, h2, next hlt fun _ => hb⟩, by dsimp only; omega⟩
      · exact simpleB_f hi fun hh => by have := hh.2.2.2 m (by omega) hml (by omega); rw [hb] at this; cases this
      · exact ⟨⟨by omega, by omega⟩, ⟨rfl, h0, h1, by omega, h2, next hlt fun _ => hb⟩, by dsimp only; omega⟩
    · rw [sidesL_len] at hge
      refine ⟨⟨by omega, by omega⟩, ⟨rfl, by omega, by omega, fun j hj => ?_⟩, by dsimp only; omega⟩
      by_cases hji : j = i
      · subst hji
        obtain ⟨a1, a2, a3, a4⟩ := h4 j rfl
        exact ⟨a1, a2, a3, fun q hq hq2 hq3 => a4 q hq (by omega) hq2 hq3⟩
      · exact h2 j (by omega)
end Go.Ab
end

section
namespace Go.Ab
open Go.Proofs
set_option maxRecDepth 10000
set_option linter.unusedVariables false

theorem ret_inside (n : Int) : Ret Tryd.prog XS 51 [int n] (boo (coord n)) :=
  polygon_inside_W n _ ⟨fun h => by simp [coord, show -1048576 ≤ n by omega], fun h => by simp [coord, show ¬ (-1048576 ≤ n) by omega]⟩
/-- What polygon.Check answers. -/
noncomputable def pcheck (p : List Spot) : Int := if 40 < p.length then 5 else if p.length < 3 then 11 else if p.all inGrid = true then (if simpleB p = true then 0 else 11) else 3
theorem ret_pcheck (p : List Spot) : Ret Tryd.prog XS 42 [.sl 2 (p.map cSpot)] (int (pcheck p)) := by
  refine polygon_Check_W p (pcheck p) (fun v => 0 ≤ v ∧ v ≤ p.length ∧ 3 ≤ p.length ∧ p.length ≤ 40 ∧ ∀ i : Nat, (h : i < p.length) → (i : Int) < v → inGrid p[i] = true) (fun v => p.length - v.toNat)
    ⟨fun h => by rw [pcheck, if_pos (by omega)], fun h => ⟨fun h2 => by rw [pcheck, if_neg (by omega), if_pos (by omega)], fun h2 => ⟨by omega, by omega, by omega, by omega, fun i hi hj => by omega⟩⟩⟩ ?_
  rintro v ⟨h0, h1, h3, h40, h2⟩
  obtain ⟨i, rfl⟩ : ∃ i : Nat, v = i := ⟨v.toNat, by omega⟩
  refine ⟨fun hlt => ?_, fun hge => ?_⟩
  · have hi : i < p.length := by omega
    rw [ai_get rfl hi]
    have bad : inGrid p[i] = false → pcheck p = 3 := by
      intro h
      have : ¬ (p.all inGrid = true) := by
        intro ha
        have := List.all_eq_true.1 ha _ (List.getElem_mem hi)
        rw [h] at this; cases this
      rw [pcheck, if_neg (by omega), if_neg (by omega), if_neg this]
    refine ⟨⟨h0, hlt⟩, _, ret_inside _, fun hx => ⟨_, ret_inside _, fun hy => ⟨⟨by omega, by omega⟩, ⟨by omega, by omega, h3, h40, fun j hj hl => ?_⟩, by dsimp only; omega⟩, fun hy => ?_⟩, fun hx => ?_⟩
    · by_cases hji : j = i
      · subst hji; simp [inGrid, hx, hy]
      · exact h2 j hj (by omega)
    · exact bad (by simp [inGrid, hy])
    · exact bad (by simp [inGrid, hx])
  · have hall : p.all inGrid = true := by
      rw [List.all_eq_true]
      intro q hq
      obtain ⟨j, hj, rfl⟩ := List.getElem_of_mem hq
      exact h2 j hj (by omega)
    have hM : ∀ q, q ∈ p → M q := fun q hq => (G_of (List.all_eq_true.1 hall q hq)).M
    exact ⟨_, ret_simple p hM h3 (by omega), fun hs => by rw [pcheck, if_neg (by omega), if_neg (by omega), if_pos hall, if_pos hs], fun hs => by rw [pcheck, if_neg (by omega), if_neg (by omega), if_pos hall, if_neg (by simp [hs])]⟩
end Go.Ab
end

section
namespace Go.Ab
open Go.Proofs
set_option maxRecDepth 10000
set_option linter.unusedVariables false

theorem cut0 {α : Type} (l : List α) (i : Nat) : cut l 0 (i : Int) = l.take i := by simp [cut]
/-- The error of the edge at i. -/
noncomputable def edgeErr (l : List Edge) (i : Nat) : Int :=
  let e := (l[i]?).getD default
  if isName e.name = false then 1 else if bears (l.take i) e = true then 7 else check e.line
/-- The first error of the edges themselves. -/
noncomputable def eerr (l : List Edge) : Int := (((List.range l.length).map (edgeErr l)).find? (fun n => decide (n ≠ 0))).getD 0
theorem eerr_at {l : List Edge} {i : Nat} (hi : i < l.length) (h0 : ∀ j, j < i → edgeErr l j = 0) (h : edgeErr l i ≠ 0) : eerr l = edgeErr l i := by
  have : ((List.range l.length).map (edgeErr l)).find? (fun n => decide (n ≠ 0)) = some (edgeErr l i) := by
    rw [List.find?_eq_some_iff_getElem]
    refine ⟨by simpa using h, i, by simpa using hi, by simp, fun j hj => by simp [h0 j hj]⟩
  rw [eerr, this]; rfl
theorem eerr_0 {l : List Edge} (h0 : ∀ j, j < l.length → edgeErr l j = 0) : eerr l = 0 := by
  have : ((List.range l.length).map (edgeErr l)).find? (fun n => decide (n ≠ 0)) = none := by
    rw [List.find?_eq_none]
    intro x hx
    obtain ⟨j, hj, rfl⟩ := List.mem_map.1 hx
    simp [h0 j (List.mem_range.1 hj)]
  rw [eerr, this]; rfl
theorem ret_edges (l : List Edge) (hn : l.length ≤ 1000000) : Ret Tryd.prog XS 41 [.sl 2 (l.map cEdge)] (int (eerr l)) := by
  refine outline_edges_W l (eerr l) (fun v => 0 ≤ v ∧ v ≤ l.length ∧ ∀ j : Nat, (j : Int) < v → edgeErr l j = 0) (fun v => l.length - v.toNat) ⟨by omega, by omega, fun j hj => by omega⟩ ?_
  rintro v ⟨h0, h1, h2⟩
  obtain ⟨i, rfl⟩ : ∃ i : Nat, v = i := ⟨v.toNat, by omega⟩
  refine ⟨fun hlt => ?_, fun hge => ?_⟩
  · have hi : i < l.length := by omega
    have hp : ∀ j, j < i → edgeErr l j = 0 := fun j hj => h2 j (by omega)
    have ee : edgeErr l i = if isName l[i].name = false then 1 else if bears (l.take i) l[i] = true then 7 else check l[i].line := by simp [edgeErr, hi]
    rw [ai_get rfl hi, cut0]
    refine ⟨⟨h0, hlt⟩, _, ret_named _, fun hb => ⟨⟨by omega, by omega, by omega⟩, _, ret_contains (l.take i) l[i] (by simp; omega), fun hc => ?_, fun hc => ⟨_, ret_check _, fun hz => ⟨⟨by omega, by omega⟩, ⟨by omega, by omega, fun j hj => ?_⟩, by dsimp only; omega⟩, fun hz => ?_⟩⟩, fun hb => ?_⟩
    · rw [if_neg (by simp [hb]), if_pos hc] at ee
      rw [eerr_at hi hp (by rw [ee]; decide), ee]
    · by_cases hji : j = i
      · subst hji; rw [ee, if_neg (by simp [hb]), if_neg (by simp [hc]), hz]
      · exact hp j (by omega)
    · rw [if_neg (by simp [hb]), if_neg (by simp [hc])] at ee
      rw [eerr_at hi hp (by rw [ee]; exact hz), ee]
    · rw [if_pos hb] at ee
      rw [eerr_at hi hp (by rw [ee]; decide), ee]
  · exact eerr_0 fun j hj => h2 j (by omega)
end Go.Ab
end

section
namespace Go.Ab
open Go.Proofs
set_option maxRecDepth 10000
set_option linter.unusedVariables false

/-- The vertices of an outline. -/
def vertsL (l : List Edge) : List Spot := l.flatMap fun e => e.line.dropLast
theorem verts_len {l : List Edge} (h : ∀ e, e ∈ l → e.line.length ≤ 40) : (vertsL l).length ≤ 40 * l.length := by
  induction l with
  | nil => simp [vertsL]
  | cons e r ih =>
    have h1 := ih fun e he => h e (List.mem_cons_of_mem _ he)
    have h2 := h e List.mem_cons_self
    simp only [vertsL, List.flatMap_cons, List.length_append, List.length_dropLast, List.length_cons] at h1 ⊢
    omega
theorem verts_take {l : List Edge} {i : Nat} (hi : i < l.length) : vertsL (l.take (i + 1)) = vertsL (l.take i) ++ l[i].line.dropLast := by
  unfold vertsL
  rw [List.take_add_one, List.getElem?_eq_getElem hi, Option.toList_some, List.flatMap_append, List.flatMap_cons, List.flatMap_nil, List.append_nil]
theorem ret_vertices (l : List Edge) (h : ∀ e, e ∈ l → 1 ≤ e.line.length ∧ e.line.length ≤ 40) (hn : l.length ≤ 1000) : Ret Tryd.prog XS 43 [.sl 2 (l.map cEdge)] (.fr 2 ((vertsL l).map cSpot)) := by
  refine outline_vertices_W l (vertsL l) (fun o v => 0 ≤ v ∧ v ≤ l.length ∧ o = vertsL (l.take v.toNat)) (fun o v => l.length - v.toNat) ⟨by omega, by omega, by simp [vertsL]⟩ ?_
  rintro o v ⟨h0, h1, rfl⟩
  obtain ⟨i, rfl⟩ : ∃ i : Nat, v = i := ⟨v.toNat, by omega⟩
  refine ⟨fun hlt => ?_, fun hge => ?_⟩
  · have hi : i < l.length := by omega
    have hl := h l[i] (List.getElem_mem hi)
    rw [ai_get rfl hi]
    have e1 : cut l[i].line 0 (((l[i].line.length : Nat) : Int) - 1) = l[i].line.dropLast := by
      rw [show (((l[i].line.length : Nat) : Int) - 1) = ((l[i].line.length - 1 : Nat) : Int) by omega, cut0, List.dropLast_eq_take]
    have e2 : vertsL (l.take (i : Int).toNat) ++ l[i].line.dropLast = vertsL (l.take (i + 1)) := (verts_take hi).symm
    rw [e1, e2]
    have hle := verts_len (l := l.take (i + 1)) fun e he => (h e (List.mem_of_mem_take he)).2
    refine ⟨⟨h0, hlt⟩, ⟨by omega, by omega⟩, ⟨by omega, by omega, by omega⟩, ?_, ⟨by omega, by omega⟩, ⟨by omega, by omega, rfl⟩, by dsimp only; omega⟩
    have : (l.take (i + 1)).length ≤ 1000 := by simp; omega
    simp only [Cap]
    omega
  · rw [show (i : Int).toNat = l.length by omega, List.take_length]

theorem check_len {l : List Spot} (h : check l = 0) : 2 ≤ l.length ∧ l.length ≤ 40 := by
  unfold check at h
  split at h
  · cases h
  · split at h
    · cases h
    · omega
theorem eerr_inv {l : List Edge} (h : eerr l = 0) : ∀ i, i < l.length → edgeErr l i = 0 := by
  intro i hi
  apply Classical.byContradiction
  intro hne
  unfold eerr at h
  cases hf : ((List.range l.length).map (edgeErr l)).find? (fun n => decide (n ≠ 0)) with
  | none =>
    rw [List.find?_eq_none] at hf
    exact hf (edgeErr l i) (List.mem_map.2 ⟨i, List.mem_range.2 hi, rfl⟩) (by simpa using hne)
  | some x =>
    rw [hf] at h
    have := List.find?_some hf
    simp only [Option.getD_some] at h
    subst h
    simp at this
theorem edge_lines {l : List Edge} (h : eerr l = 0) : ∀ e, e ∈ l → check e.line = 0 := by
  intro e he
  obtain ⟨i, hi, rfl⟩ := List.getElem_of_mem he
  have := eerr_inv h i hi
  simp only [edgeErr, List.getElem?_eq_getElem hi, Option.getD_some] at this
  split at this
  · cases this
  · split at this
    · cases this
    · exact this
/-- The end of the edge before i meets the beginning of the edge at i. -/
def Joined (l : List Edge) (i : Nat) : Prop := ai (ai l (((i + l.length - 1) % l.length : Nat) : Int)).line ((((ai l (((i + l.length - 1) % l.length : Nat) : Int)).line.length : Nat) : Int) - 1) = ai (ai l (i : Int)).line 0
open Classical in
/-- What outline.Check answers. -/
noncomputable def ocheck (l : List Edge) : Int := if 16 < l.length then 5 else if l.length < 2 then 11 else if eerr l ≠ 0 then eerr l else if ∀ i, i < l.length → Joined l i then pcheck (vertsL l) else 11
end Go.Ab
end

section
namespace Go.Ab
open Go.Proofs
set_option maxRecDepth 10000
set_option linter.unusedVariables false

theorem ret_ocheck (l : List Edge) : Ret Tryd.prog XS 33 [.sl 2 (l.map cEdge)] (int (ocheck l)) := by
  have prev : ∀ i, i < l.length → i ≠ 0 → (i + l.length - 1) % l.length = i - 1 := fun i hi h0 => by
    rw [show i + l.length - 1 = (i - 1) + l.length by omega, Nat.add_mod_right, Nat.mod_eq_of_lt (by omega)]
  have prev0 : 2 ≤ l.length → (0 + l.length - 1) % l.length = l.length - 1 := fun h => by
    rw [show 0 + l.length - 1 = l.length - 1 by omega, Nat.mod_eq_of_lt (by omega)]
  refine outline_Check_W l (ocheck l) (fun e v => 0 ≤ v ∧ v ≤ l.length ∧ l.length ≤ 16 ∧ 2 ≤ l.length ∧ eerr l = 0 ∧ e = (ai l (((v.toNat + l.length - 1) % l.length : Nat) : Int)).line ∧ ∀ i : Nat, (i : Int) < v → Joined l i) (fun e v => l.length - v.toNat)
    ⟨fun h => by rw [ocheck, if_pos (by omega)], fun h => ⟨fun h2 => by rw [ocheck, if_neg (by omega), if_pos (by omega)], fun h2 => ⟨_, ret_edges l (by omega), fun he => ⟨⟨by omega, by omega⟩, ⟨by omega, by omega⟩, by omega, by omega, by omega, by omega, he, ?_, fun i hi => by omega⟩, fun he => by rw [ocheck, if_neg (by omega), if_neg (by omega), if_pos he]⟩⟩⟩ ?_
  · rw [show (0 : Int).toNat = 0 from rfl, prev0 (by omega)]
    congr 2; omega
  · rintro e v ⟨h0, h1, h16, h2, he, rfl, hj⟩
    obtain ⟨i, rfl⟩ : ∃ i : Nat, v = i := ⟨v.toNat, by omega⟩
    have lines := edge_lines he
    have hpm : ((i : Int).toNat + l.length - 1) % l.length < l.length := Nat.mod_lt _ (by omega)
    have hlp := check_len (lines _ (ai_mem (l := l) (v := ((((i : Int).toNat + l.length - 1) % l.length : Nat) : Int)) ⟨by omega, by omega⟩))
    refine ⟨fun hlt => ?_, fun hge => ?_⟩
    · have hi : i < l.length := by omega
      have hl := check_len (lines _ (ai_mem (l := l) (v := (i : Int)) ⟨by omega, by omega⟩))
      refine ⟨⟨h0, hlt⟩, ⟨by omega, by omega⟩, ⟨by omega, by omega⟩, ⟨by omega, by omega⟩, fun hq => ⟨⟨by omega, by omega⟩, ⟨by omega, by omega, h16, h2, he, ?_, fun j hjl => ?_⟩, by dsimp only; omega⟩, fun hq => ?_⟩
      · rw [show ((i : Int) + 1).toNat + l.length - 1 = i + l.length by omega, Nat.add_mod_right, Nat.mod_eq_of_lt hi]
      · by_cases hji : j = i
        · subst hji; exact hq
        · exact hj j (by omega)
      · rw [ocheck, if_neg (by omega), if_neg (by omega), if_neg (by simp [he]), if_neg fun hall => hq (hall i hi)]
    · have hall : ∀ i, i < l.length → Joined l i := fun j hjl => hj j (by omega)
      refine ⟨_, ret_vertices l (fun e hm => by have := check_len (lines e hm); omega) (by omega), _, ret_pcheck _, ?_⟩
      rw [ocheck, if_neg (by omega), if_neg (by omega), if_neg (by simp [he]), if_pos hall]
end Go.Ab
end

section
namespace Go.Ab
open Go.Proofs
set_option maxRecDepth 10000
set_option linter.unusedVariables false

/-- n / s, rounded, halves away from 0. -/
def shr (n s : Int) : Int := if n < 0 then -((2 * (-n) + s).tdiv (2 * s)) else (2 * n + s).tdiv (2 * s)
theorem tdiv_box {a b : Int} (h0 : 0 ≤ a) (hb : 0 < b) : 0 ≤ a.tdiv b ∧ a.tdiv b ≤ a := by
  rw [Int.tdiv_eq_ediv_of_nonneg h0]
  exact ⟨Int.ediv_nonneg h0 (by omega), Int.ediv_le_self _ h0⟩
theorem ret_share0 {n s : Int} (h0 : 0 ≤ n) (hn : n ≤ 1000000000000) (hs : 0 < s) (hs2 : s ≤ 1000000) : Ret Tryd.prog XS 44 [int n, int s] (int ((2 * n + s).tdiv (2 * s))) := by
  have := tdiv_box (a := 2 * n + s) (b := 2 * s) (by omega) (by omega)
  exact grade_share_W n s _ ⟨fun h => by omega, fun h => ⟨⟨by omega, by omega⟩, ⟨by omega, by omega⟩, ⟨by omega, by omega⟩, by omega, ⟨by omega, by omega⟩, rfl⟩⟩
theorem ret_share {n s : Int} (hn : -1000000000000 ≤ n ∧ n ≤ 1000000000000) (hs : 0 < s) (hs2 : s ≤ 1000000) : Ret Tryd.prog XS 44 [int n, int s] (int (shr n s)) := by
  by_cases h : n < 0
  · have := tdiv_box (a := 2 * (-n) + s) (b := 2 * s) (by omega) (by omega)
    exact grade_share_W n s _ ⟨fun _ => ⟨⟨by omega, by omega⟩, _, ret_share0 (by omega) (by omega) hs hs2, ⟨by omega, by omega⟩, by rw [shr, if_pos h]⟩, fun h' => by omega⟩
  · rw [shr, if_neg h]; exact ret_share0 (by omega) hn.2 hs hs2
theorem ret_move {m : Int} {p : Spot} (h1 : InR (m * p.x)) (h2 : InR (m * p.y)) : Ret Tryd.prog XS 34 [int m, .agg [int p.x, int p.y]] (.agg [int (m * p.x), int (m * p.y)]) :=
  grade_times_move_W m p ⟨m * p.x, m * p.y⟩ ⟨h1, h2, rfl⟩
def small (n : Int) : Bool := decide (-1000 ≤ n) && decide (n ≤ 1000)
def shifted (p : Spot) : Bool := small p.x && small p.y
theorem ret_shifted (p : Spot) : Ret Tryd.prog XS 32 [.agg [int p.x, int p.y]] (boo (shifted p)) := by
  refine grade_shifted_W p _ ⟨fun h => ⟨fun h1 => ⟨fun h2 => ?_, fun h2 => ?_⟩, fun h1 => ?_⟩, fun h => ?_⟩
  · simp [shifted, small, h1, show -1000 ≤ p.x by omega, show -1000 ≤ p.y by omega]
  · simp [shifted, small, show ¬ (-1000 ≤ p.y) by omega]
  · simp [shifted, small, h1]
  · simp [shifted, small, show ¬ (-1000 ≤ p.x) by omega]
end Go.Ab
end

section
namespace Go.Ab
open Go.Proofs
set_option maxRecDepth 10000
set_option linter.unusedVariables false

/-- How far the vertex at k is moved. -/
def sh (n k : Nat) (a b : Int) : Int := shr (((n : Int) - 1 - k) * a + k * b) ((n : Int) - 1)
def alongAt (l : List Spot) (a b : Spot) (k : Nat) : Spot := ⟨((l[k]?).getD default).x + sh l.length k a.x b.x, ((l[k]?).getD default).y + sh l.length k a.y b.y⟩
def alongL (l : List Spot) (a b : Spot) : List Spot := (List.range l.length).map (alongAt l a b)
theorem alongL_len (l : List Spot) (a b : Spot) : (alongL l a b).length = l.length := by simp [alongL]
def Sm (p : Spot) : Prop := (-100000 ≤ p.x ∧ p.x ≤ 100000) ∧ -100000 ≤ p.y ∧ p.y ≤ 100000
theorem lin_box {n k : Nat} {a b : Int} (hk : k < n) (hn : n ≤ 40) (ha : -100000 ≤ a ∧ a ≤ 100000) (hb : -100000 ≤ b ∧ b ≤ 100000) :
    (-4000000 ≤ ((n : Int) - 1 - k) * a ∧ ((n : Int) - 1 - k) * a ≤ 4000000) ∧ -4000000 ≤ (k : Int) * b ∧ (k : Int) * b ≤ 4000000 := by
  have p := mul_box (a := (n : Int) - 1 - k) (b := a) (K := 40) (L := 100000) (by omega) (by omega) (by omega) (by omega)
  have q := mul_box (a := (k : Int)) (b := b) (K := 40) (L := 100000) (by omega) (by omega) (by omega) (by omega)
  omega
theorem shr_box {n s : Int} (hs : 0 < s) : -(2 * (if n < 0 then -n else n) + s) ≤ shr n s ∧ shr n s ≤ 2 * (if n < 0 then -n else n) + s := by
  unfold shr
  split
  · have := tdiv_box (a := 2 * (-n) + s) (b := 2 * s) (by omega) (by omega); omega
  · have := tdiv_box (a := 2 * n + s) (b := 2 * s) (by omega) (by omega); omega
theorem ret_along {l : List Spot} {a b : Spot} (h2 : 2 ≤ l.length) (h40 : l.length ≤ 40) (hl : ∀ p, p ∈ l → G p) (ha : Sm a) (hb : Sm b) :
    Ret Tryd.prog XS 35 [.sl 2 (l.map cSpot), .agg [int a.x, int a.y], .agg [int b.x, int b.y]] (.fr 2 ((alongL l a b).map cSpot)) := by
  refine grade_along_W l a b (alongL l a b) (fun v w => 0 ≤ v ∧ v ≤ l.length ∧ w.length = l.length ∧ ∀ j : Nat, (j : Int) < v → w[j]? = some (alongAt l a b j)) (fun v w => l.length - v.toNat)
    ⟨⟨by omega, by omega⟩, by omega, by omega, by omega, by omega, by omega, by simp, fun j hj => by omega⟩ ?_
  rintro v w ⟨h0, h1, hw, h3⟩
  obtain ⟨i, rfl⟩ : ∃ i : Nat, v = i := ⟨v.toNat, by omega⟩
  refine ⟨fun hlt => ?_, fun hge => ?_⟩
  · have hi : i < l.length := by omega
    have hg := hl l[i] (List.getElem_mem hi)
    obtain ⟨⟨g1, g2⟩, g3, g4⟩ := hg
    have bx := lin_box hi h40 ha.1 hb.1
    have bY := lin_box hi h40 ha.2 hb.2
    have sx := shr_box (n := ((l.length : Int) - 1 - i) * a.x + i * b.x) (s := (l.length : Int) - 1) (by omega)
    have sy := shr_box (n := ((l.length : Int) - 1 - i) * a.y + i * b.y) (s := (l.length : Int) - 1) (by omega)
    rw [ai_get rfl hi]
    have e : (⟨l[i].x + sh l.length i a.x b.x, l[i].y + sh l.length i a.y b.y⟩ : Spot) = alongAt l a b i := by simp [alongAt, hi]
    have tx : -17000000 ≤ sh l.length i a.x b.x ∧ sh l.length i a.x b.x ≤ 17000000 := by unfold sh; split at sx <;> omega
    have ty : -17000000 ≤ sh l.length i a.y b.y ∧ sh l.length i a.y b.y ≤ 17000000 := by unfold sh; split at sy <;> omega
    refine ⟨⟨h0, hlt⟩, ⟨by omega, by omega⟩, ⟨by omega, by omega⟩, ⟨by omega, by omega⟩, ⟨by omega, by omega⟩, _, ret_share ⟨by omega, by omega⟩ (by omega) (by omega), ?_, ⟨by omega, by omega⟩, ⟨by omega, by omega⟩, ⟨by omega, by omega⟩, _, ret_share ⟨by omega, by omega⟩ (by omega) (by omega), ?_, ⟨by omega, by omega⟩, ⟨by omega, by omega⟩, ⟨by omega, by omega, by simpa using hw, fun j hj => ?_⟩, by dsimp only; omega⟩
    · show InR (l[i].x + sh l.length i a.x b.x); exact ⟨by omega, by omega⟩
    · show InR (l[i].y + sh l.length i a.y b.y); exact ⟨by omega, by omega⟩
    · rw [show ((i : Int).toNat) = i from rfl, List.getElem?_set]
      split
      · rename_i e2; subst e2; rw [if_pos (by omega), ← e]; rfl
      · exact h3 j (by omega)
  · refine List.ext_getElem? fun j => ?_
    by_cases hj : j < l.length
    · rw [h3 j (by omega)]; simp [alongL, hj]
    · rw [List.getElem?_eq_none (by rw [alongL_len]; omega), List.getElem?_eq_none (by omega)]
end Go.Ab
end

section
namespace Go.Ab
open Go.Proofs
set_option maxRecDepth 10000
set_option linter.unusedVariables false

def mv (m : Int) (p : Spot) : Spot := ⟨m * p.x, m * p.y⟩
def gE (p : Piece) (m : Int) (i : Nat) : Edge := ⟨((p.edges[i]?).getD default).name, alongL ((p.edges[i]?).getD default).line (mv m (vx p.corners i)) (mv m (vx p.corners (i + 1)))⟩
def gradedL (p : Piece) (m : Int) : List Edge := (List.range p.edges.length).map (gE p m)
noncomputable def gerr (p : Piece) (m : Int) : Int :=
  if m < -100 ∨ 100 < m then 3 else if p.corners.length ≠ p.edges.length then 1 else if p.corners.all shifted = false then 3 else if ocheck p.edges ≠ 0 then ocheck p.edges else ocheck (gradedL p m)
noncomputable def gres (p : Piece) (m : Int) : List Edge := if gerr p m = 0 then gradedL p m else []
theorem ocheck_inv {l : List Edge} (h : ocheck l = 0) : l.length ≤ 16 ∧ 2 ≤ l.length ∧ eerr l = 0 ∧ (∀ i, i < l.length → Joined l i) ∧ pcheck (vertsL l) = 0 := by
  unfold ocheck at h
  split at h
  · cases h
  · split at h
    · cases h
    · split at h
      · contradiction
      · split at h
        · exact ⟨by omega, by omega, by omega, by assumption, h⟩
        · cases h
theorem check_grid {l : List Spot} (h : check l = 0) : ∀ p, p ∈ l → G p := by
  intro p hp
  unfold check at h
  split at h
  · cases h
  · split at h
    · cases h
    · split at h
      · cases h
      · rename_i hg
        exact G_of (List.all_eq_true.1 (by simpa using hg) p hp)
theorem mv_box {m : Int} {p : Spot} (hm : -100 ≤ m ∧ m ≤ 100) (hp : shifted p = true) : Sm (mv m p) := by
  simp only [shifted, small, Bool.and_eq_true, decide_eq_true_eq] at hp
  have a := mul_box (a := m) (b := p.x) (K := 100) (L := 1000) (by omega) (by omega) (by omega) (by omega)
  have b := mul_box (a := m) (b := p.y) (K := 100) (L := 1000) (by omega) (by omega) (by omega) (by omega)
  exact ⟨⟨by simp only [mv]; omega, by simp only [mv]; omega⟩, by simp only [mv]; omega, by simp only [mv]; omega⟩
theorem ret_mv {m : Int} {p : Spot} (h : Sm (mv m p)) : Ret Tryd.prog XS 34 [int m, .agg [int p.x, int p.y]] (.agg [int (mv m p).x, int (mv m p).y]) := by
  obtain ⟨⟨a, b⟩, c, d⟩ := h
  simp only [mv] at a b c d
  exact ret_move ⟨by omega, by omega⟩ ⟨by omega, by omega⟩
theorem gradedL_len (p : Piece) (m : Int) : (gradedL p m).length = p.edges.length := by simp [gradedL]
end Go.Ab
end

section
namespace Go.Ab
open Go.Proofs
set_option maxRecDepth 10000
set_option linter.unusedVariables false

theorem ret_graded (p : Piece) (m : Int) (hc : p.corners.length ≤ 1000000) : Ret Tryd.prog XS 20 [.agg [str p.name, .sl 2 (p.edges.map cEdge), int p.grain, .sl 2 (p.notches.map cNotch), .sl 2 (p.corners.map cSpot), .sl 1 (p.widths.map cI), boo p.match_], int m] (.tup [.fr 2 ((gres p m).map cEdge), int (gerr p m)]) := by
  have out : ∀ e : Int, e ≠ 0 → gerr p m = e → gres p m = [] ∧ gerr p m = e := fun e h he => ⟨by rw [gres, if_neg (by rw [he]; exact h)], he⟩
  refine grade_Graded_W p m (gres p m) (gerr p m)
    (fun v => 0 ≤ v ∧ v ≤ p.corners.length ∧ (-100 ≤ m ∧ m ≤ 100) ∧ p.corners.length = p.edges.length ∧ ∀ j : Nat, (h : j < p.corners.length) → (j : Int) < v → shifted p.corners[j] = true) (fun v => p.corners.length - v.toNat)
    (fun o v => 0 ≤ v ∧ v ≤ p.edges.length ∧ (-100 ≤ m ∧ m ≤ 100) ∧ p.corners.length = p.edges.length ∧ p.corners.all shifted = true ∧ ocheck p.edges = 0 ∧ o = (gradedL p m).take v.toNat) (fun o v => p.edges.length - v.toNat)
    ⟨fun h => ?_, fun h => ⟨fun h2 => ?_, fun h2 => ⟨fun h3 => ⟨by omega, by omega, ⟨by omega, by omega⟩, by omega, fun j _ hj => by omega⟩, fun h3 => ?_⟩⟩⟩ ?_ ?_
  · have := out 3 (by decide) (by rw [gerr, if_pos (.inl h)]); exact ⟨this.1.symm ▸ this.1, this.2⟩
  · have := out 3 (by decide) (by rw [gerr, if_pos (.inr h2)]); exact this
  · exact out 1 (by decide) (by rw [gerr, if_neg (by omega), if_pos (by omega)])
  · rintro v ⟨h0, h1, hm, hn, hj⟩
    obtain ⟨i, rfl⟩ : ∃ i : Nat, v = i := ⟨v.toNat, by omega⟩
    refine ⟨fun hlt => ?_, fun hge => ?_⟩
    · have hi : i < p.corners.length := by omega
      rw [ai_get rfl hi]
      refine ⟨⟨h0, hlt⟩, _, ret_shifted _, fun hs => ⟨⟨by omega, by omega⟩, ⟨by omega, by omega, hm, hn, fun j hj1 hj2 => ?_⟩, by dsimp only; omega⟩, fun hs => out 3 (by decide) ?_⟩
      · by_cases hji : j = i
        · subst hji; exact hs
        · exact hj j hj1 (by omega)
      · have : p.corners.all shifted = false := by
          rw [List.all_eq_false]; exact ⟨_, List.getElem_mem hi, by simp [hs]⟩
        rw [gerr, if_neg (by omega), if_neg (by omega), if_pos this]
    · have hall : p.corners.all shifted = true := by
        rw [List.all_eq_true]
        intro q hq
        obtain ⟨j, hj1, rfl⟩ := List.getElem_of_mem hq
        exact hj j hj1 (by omega)
      refine ⟨_, ret_ocheck p.edges, fun ho => ⟨by omega, by omega, hm, hn, hall, ho, by simp⟩, fun ho => out _ ho ?_⟩
      rw [gerr, if_neg (by omega), if_neg (by omega), if_neg (by simp [hall]), if_pos ho]
  · rintro o v ⟨h0, h1, hm, hn, hall, ho, rfl⟩
    obtain ⟨i, rfl⟩ : ∃ i : Nat, v = i := ⟨v.toNat, by omega⟩
    obtain ⟨o16, o2, oe, oj, op⟩ := ocheck_inv ho
    refine ⟨fun hlt => ?_, fun hge => ?_⟩
    · have hi : i < p.edges.length := by omega
      have hmd : (i + 1) % p.corners.length < p.corners.length := Nat.mod_lt _ (by omega)
      have et : ((i : Int) + 1).tmod (((p.corners.length : Nat)) : Int) = (((i + 1) % p.corners.length : Nat) : Int) := tmod_nat (by omega) rfl
      have sm : ∀ q, Sm (mv m (vx p.corners q)) := fun q => mv_box hm (List.all_eq_true.1 hall _ (vx_mem (by omega) q))
      have hck := edge_lines oe p.edges[i] (List.getElem_mem hi)
      have hln := check_len hck
      have hal := ret_along (l := p.edges[i].line) hln.1 hln.2 (check_grid hck) (sm i) (sm (i + 1))
      have eg : (⟨p.edges[i].name, alongL p.edges[i].line (mv m (vx p.corners i)) (mv m (vx p.corners (i + 1)))⟩ : Edge) = gE p m i := by simp [gE, hi]
      have ek : (gradedL p m).take ((i : Int)).toNat ++ [gE p m i] = (gradedL p m).take ((i : Int) + 1).toNat := by
        rw [show ((i : Int) + 1).toNat = i + 1 by omega, show ((i : Int)).toNat = i from rfl, List.take_add_one]
        simp [gradedL, hi]
      rw [et, ai_get rfl hi, ai_vx rfl (show i < p.corners.length by omega), ai_vx rfl hmd, vx_mod]
      refine ⟨⟨h0, hlt⟩, ⟨by omega, by omega⟩, _, ret_mv (sm i), ⟨by omega, by omega⟩, by omega, ⟨by omega, by omega⟩, _, ret_mv (sm (i + 1)), _, hal, ?_, ⟨by omega, by omega, hm, hn, hall, ho, ?_⟩, by dsimp only; omega⟩
      · rw [eg, ek]; simp only [Cap, List.length_take, gradedL_len]; omega
      · rw [eg, ek]
    · have e1 : (gradedL p m).take ((i : Int)).toNat = gradedL p m := List.take_of_length_le (by rw [gradedL_len]; omega)
      rw [e1]
      have eg : gerr p m = ocheck (gradedL p m) := by rw [gerr, if_neg (by omega), if_neg (by omega), if_neg (by simp [hall]), if_neg (by simp [ho])]
      exact ⟨_, ret_ocheck _, fun hz => ⟨by rw [gres, if_pos (by rw [eg]; exact hz)], by rw [eg]; exact hz⟩, fun hz => out _ hz eg⟩
end Go.Ab
end

section
namespace Go.Ab
open Go.Proofs
set_option maxRecDepth 10000
set_option linter.unusedVariables false

def okE (a : Int) (e : Edge) : Bool := decide (((e.line.length : Nat) : Int) ≤ a) && decide (e.name.size ≤ 100)
def sumE (l : List Edge) : Nat := (l.map fun e => e.line.length).sum
def light (p : Piece) (a : Int) : Bool := decide (p.edges.length ≤ 20) && (decide (p.corners.length ≤ 20) && (decide (p.widths.length ≤ 20) && (decide (p.notches.length ≤ 20) && (p.edges.all (okE a) && decide (((sumE p.edges : Nat) : Int) ≤ a)))))
theorem sum_take {l : List Edge} {i : Nat} (hi : i < l.length) : sumE (l.take (i + 1)) = sumE (l.take i) + l[i].line.length := by
  unfold sumE
  rw [List.take_add_one, List.getElem?_eq_getElem hi, Option.toList_some, List.map_append, List.sum_append]
  simp
theorem sum_le {l : List Edge} {a : Nat} (h : ∀ e, e ∈ l → e.line.length ≤ a) : sumE l ≤ a * l.length := by
  induction l with
  | nil => simp [sumE]
  | cons e r ih =>
    have h1 := ih fun e he => h e (List.mem_cons_of_mem _ he)
    have h2 := h e List.mem_cons_self
    simp only [sumE, List.map_cons, List.sum_cons, List.length_cons, Nat.mul_add] at h1 ⊢
    omega
theorem ret_light (p : Piece) (a : Nat) (ha : a ≤ 1000000) : Ret Tryd.prog XS 19 [.agg [str p.name, .sl 2 (p.edges.map cEdge), int p.grain, .sl 2 (p.notches.map cNotch), .sl 2 (p.corners.map cSpot), .sl 1 (p.widths.map cI), boo p.match_], int (a : Int)] (boo (light p a)) := by
  refine garmentref21_Light_W p a _ (fun n v => 0 ≤ v ∧ v ≤ p.edges.length ∧ p.edges.length ≤ 20 ∧ p.corners.length ≤ 20 ∧ p.widths.length ≤ 20 ∧ p.notches.length ≤ 20 ∧ n = (sumE (p.edges.take v.toNat) : Nat) ∧ ∀ j : Nat, (h : j < p.edges.length) → (j : Int) < v → okE a p.edges[j] = true) (fun n v => p.edges.length - v.toNat)
    ⟨fun h => by simp [light, show ¬ (p.edges.length ≤ 20) by omega], fun h1 => ⟨fun h => by simp [light, show ¬ (p.corners.length ≤ 20) by omega], fun h2 => ⟨fun h => by simp [light, show ¬ (p.widths.length ≤ 20) by omega], fun h3 => ⟨fun h => by simp [light, show ¬ (p.notches.length ≤ 20) by omega], fun h4 => ⟨by omega, by omega, by omega, by omega, by omega, by omega, by simp [sumE], fun j _ hj => by omega⟩⟩⟩⟩⟩ ?_
  rintro n v ⟨h0, h1, l1, l2, l3, l4, rfl, hj⟩
  obtain ⟨i, rfl⟩ : ∃ i : Nat, v = i := ⟨v.toNat, by omega⟩
  refine ⟨fun hlt => ?_, fun hge => ?_⟩
  · have hi : i < p.edges.length := by omega
    have bad : okE a p.edges[i] = false → light p a = false := by
      intro h
      have : p.edges.all (okE a) = false := by rw [List.all_eq_false]; exact ⟨_, List.getElem_mem hi, by simp [h]⟩
      simp [light, this]
    rw [ai_get rfl hi]
    have hs := sum_le (l := p.edges.take i) (a := a) fun e he => by
      obtain ⟨j, hjl, rfl⟩ := List.getElem_of_mem he
      rw [List.length_take] at hjl
      rw [List.getElem_take]
      have := hj j (by omega) (by omega)
      simp only [okE, Bool.and_eq_true, decide_eq_true_eq] at this
      omega
    have hs2 : sumE (p.edges.take i) ≤ 20000000 := Nat.le_trans hs (Nat.le_trans (Nat.mul_le_mul ha (show (p.edges.take i).length ≤ 20 by simp; omega)) (by decide))
    have hst := sum_take hi
    refine ⟨⟨h0, hlt⟩, fun h => (bad (by simp [okE, show ¬ (((p.edges[i].line.length : Nat) : Int) ≤ a) by omega])), fun h => ⟨fun h' => bad (by simp [okE, show ¬ (p.edges[i].name.size ≤ 100) by omega]), fun h' => ⟨?_, ⟨by omega, by omega⟩, ⟨by omega, by omega, l1, l2, l3, l4, ?_, fun j hj1 hj2 => ?_⟩, by dsimp only; omega⟩⟩⟩
    · rw [show (i : Int).toNat = i from rfl]; exact ⟨by omega, by omega⟩
    · rw [show ((i : Int) + 1).toNat = i + 1 by omega, show (i : Int).toNat = i from rfl, hst]; omega
    · by_cases hji : j = i
      · subst hji; simp only [okE, Bool.and_eq_true, decide_eq_true_eq]; omega
      · exact hj j hj1 (by omega)
  · have hall : p.edges.all (okE a) = true := by
      rw [List.all_eq_true]
      intro e he
      obtain ⟨j, hj1, rfl⟩ := List.getElem_of_mem he
      exact hj j hj1 (by omega)
    rw [show (i : Int).toNat = p.edges.length by omega, List.take_length]
    simp [light, hall, l1, l2, l3, l4]
end Go.Ab
end
