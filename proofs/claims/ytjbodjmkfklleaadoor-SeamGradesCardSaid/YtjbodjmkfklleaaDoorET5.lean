/- Polygons: turned, rotated, reversed. -/
import Derived.Test.YtjbodjmkfklleaaDoorET3
set_option linter.unusedVariables false
set_option linter.unusedSimpArgs false
set_option linter.unusedSectionVars false

section
namespace Go.Ab
open Go.Proofs
set_option maxRecDepth 10000
set_option linter.unusedVariables false

theorem vx_add (p : List Spot) (i k : Nat) : vx p (i % p.length + k) = vx p (i + k) := by
  simp only [vx, Nat.mod_add_mod]
/-- Simple, said round and round. -/
def Cyc (n : Nat) (f : Nat → Spot) : Prop := ∀ i, f i ≠ f (i + 1) ∧ hold (f i) (f (i + 1)) (f (i + 2)) = false ∧ hold (f (i + 1)) (f (i + 2)) (f i) = false ∧
  ∀ d, 2 ≤ d → d + 2 ≤ n → meet (f i) (f (i + 1)) (f (i + d)) (f (i + d + 1)) = false
theorem meet_comm (a b c d : Spot) : meet a b c d = meet c d a b := by
  unfold meet
  cases hold a b c <;> cases hold a b d <;> cases hold c d a <;> cases hold c d b <;> simp [Bool.and_comm]
theorem simple_cyc {p : List Spot} (h3 : 3 ≤ p.length) : Simple p ↔ Cyc p.length (vx p) := by
  constructor
  · intro h i
    have hi : i % p.length < p.length := Nat.mod_lt _ (by omega)
    obtain ⟨a1, a2, a3, a4⟩ := h (i % p.length) hi
    rw [vx_mod, vx_add] at a1
    rw [vx_mod, vx_add, vx_add] at a2 a3
    refine ⟨a1, a2, a3, fun d d2 dn => ?_⟩
    by_cases hd : i % p.length + d < p.length
    · have := a4 (i % p.length + d) (by omega) hd (by omega)
      rw [vx_mod, vx_add, vx_add, show i % p.length + d + 1 = i % p.length + (d + 1) by omega, vx_add] at this
      exact this
    · have hk : i % p.length + d - p.length < p.length := by omega
      obtain ⟨-, -, -, b4⟩ := h (i % p.length + d - p.length) hk
      have := b4 (i % p.length) (by omega) hi (by omega)
      rw [vx_mod, vx_add, meet_comm] at this
      have e1 : ∀ k, vx p (i % p.length + d - p.length + k) = vx p (i + d + k) := fun k => by
        have : vx p (i % p.length + d - p.length + k + p.length) = vx p (i % p.length + d - p.length + k) := by simp [vx]
        rw [← this, show i % p.length + d - p.length + k + p.length = i % p.length + (d + k) by omega, vx_add, Nat.add_assoc]
      have e0 := e1 0
      simp only [Nat.add_zero] at e0
      rwa [e0, e1 1] at this
  · intro h i hi
    obtain ⟨a1, a2, a3, a4⟩ := h i
    refine ⟨a1, a2, a3, fun k k2 kn hne => ?_⟩
    have := a4 (k - i) (by omega) (by omega)
    rwa [show i + (k - i) = k by omega] at this
theorem cyc_shift {n : Nat} {f : Nat → Spot} (h : Cyc n f) (r : Nat) : Cyc n (fun i => f (i + r)) := by
  intro i
  have := h (i + r)
  simp only [show ∀ k, i + k + r = i + r + k from fun k => by omega, show ∀ k l, i + k + l + r = i + r + k + l from fun k l => by omega]
  exact this
theorem vx_rot (a b : List Spot) (i : Nat) (h : 0 < (a ++ b).length) : vx (b ++ a) i = vx (a ++ b) (i + a.length) := by
  have hl : (b ++ a).length = (a ++ b).length := by simp; omega
  have hj : i % (a ++ b).length < (a ++ b).length := Nat.mod_lt _ h
  simp only [vx, hl]
  rw [← Nat.mod_add_mod]
  generalize i % (a ++ b).length = j at hj
  rw [List.length_append] at hj ⊢
  by_cases hb : j < b.length
  · rw [Nat.mod_eq_of_lt (show j + a.length < a.length + b.length by omega), List.getElem?_append_left hb, List.getElem?_append_right (by omega), show j + a.length - a.length = j by omega]
  · rw [show j + a.length = (j - b.length) + (a.length + b.length) by omega, Nat.add_mod_right, Nat.mod_eq_of_lt (by omega), List.getElem?_append_right (by omega), List.getElem?_append_left (by omega)]
theorem simple_rot {a b : List Spot} (h3 : 3 ≤ (a ++ b).length) (h : Simple (a ++ b)) : Simple (b ++ a) := by
  have hl : (b ++ a).length = (a ++ b).length := by simp; omega
  rw [simple_cyc (by omega)] at h ⊢
  rw [hl, show vx (b ++ a) = fun i => vx (a ++ b) (i + a.length) from funext fun i => vx_rot a b i (by omega)]
  exact cyc_shift h _
theorem vx_rev {p : List Spot} (h : 0 < p.length) {K j : Nat} (hj : j < p.length * K) : vx p.reverse j = vx p (p.length * K - 1 - j) := by
  have hr : j % p.length < p.length := Nat.mod_lt _ h
  have e := Nat.div_add_mod j p.length
  have hq : j / p.length < K := Nat.div_lt_of_lt_mul hj
  have e2 : p.length * K - 1 - j = p.length * (K - 1 - j / p.length) + (p.length - 1 - j % p.length) := by
    obtain ⟨c, hc⟩ : ∃ c, K = j / p.length + 1 + c := ⟨K - 1 - j / p.length, by omega⟩
    have e3 : K - 1 - j / p.length = c := by omega
    have e4 : p.length * K = p.length * (j / p.length) + p.length + p.length * c := by
      conv => lhs; rw [hc]
      rw [Nat.mul_add, Nat.mul_add, Nat.mul_one]
    rw [e3]; omega
  simp only [vx, List.length_reverse, e2, Nat.mul_add_mod]
  rw [Nat.mod_eq_of_lt (show p.length - 1 - j % p.length < p.length by omega), List.getElem?_reverse hr]
theorem tn_swap (a b c : Spot) : tn b a c = -tn a b c := by
  simp only [tn, Int.sub_mul, Int.mul_sub]
  have := Int.mul_comm a.x b.y; have := Int.mul_comm a.y b.x; have := Int.mul_comm a.x a.y; have := Int.mul_comm b.x b.y
  omega
theorem wi_swap (n a b : Int) : wi n b a = wi n a b := by
  unfold wi; rw [Int.min_comm, Int.max_comm]
theorem hold_swap (a b q : Spot) : hold b a q = hold a b q := by
  unfold hold
  rw [wi_swap q.x a.x b.x, wi_swap q.y a.y b.y, tn_swap]
  congr 1
  rw [decide_eq_decide]; omega
theorem divi_swap (a b p q : Spot) : divi b a p q = divi a b p q := by
  unfold divi
  rw [tn_swap a b p, tn_swap a b q, Bool.eq_iff_iff]
  simp only [Bool.or_eq_true, Bool.and_eq_true, decide_eq_true_eq]; omega
theorem divi_swap2 (a b p q : Spot) : divi a b q p = divi a b p q := by
  unfold divi
  rw [Bool.eq_iff_iff]
  simp only [Bool.or_eq_true, Bool.and_eq_true, decide_eq_true_eq]; omega
theorem meet_swap (a b c d : Spot) : meet b a d c = meet a b c d := by
  unfold meet
  rw [hold_swap a b d, hold_swap a b c, hold_swap c d b, hold_swap c d a, divi_swap a b, divi_swap2 a b, divi_swap c d, divi_swap2 c d]
  cases hold a b c <;> cases hold a b d <;> cases hold c d a <;> cases hold c d b <;> simp
theorem simple_rev {p : List Spot} (h3 : 3 ≤ p.length) (h : Simple p) : Simple p.reverse := by
  rw [simple_cyc (by simpa using h3)]
  rw [simple_cyc h3] at h
  rw [List.length_reverse]
  have rv : ∀ K j, j < K → vx p.reverse j = vx p (p.length * K - 1 - j) := fun K j hj => vx_rev (by omega) (by
    have : K ≤ p.length * K := Nat.le_mul_of_pos_left K (by omega)
    omega)
  intro i
  have hK : i + 4 ≤ p.length * (i + 4) := Nat.le_mul_of_pos_left _ (by omega)
  have key := h (p.length * (i + 4) - 1 - (i + 2))
  rw [show p.length * (i + 4) - 1 - (i + 2) + 1 = p.length * (i + 4) - 1 - (i + 1) by omega, show p.length * (i + 4) - 1 - (i + 2) + 2 = p.length * (i + 4) - 1 - i by omega] at key
  have key1 := (h (p.length * (i + 4) - 1 - (i + 1))).1
  rw [show p.length * (i + 4) - 1 - (i + 1) + 1 = p.length * (i + 4) - 1 - i by omega] at key1
  rw [rv (i + 4) i (by omega), rv (i + 4) (i + 1) (by omega), rv (i + 4) (i + 2) (by omega)]
  refine ⟨fun e => key1 e.symm, by rw [hold_swap]; exact key.2.2.1, by rw [hold_swap]; exact key.2.1, fun d d2 dn => ?_⟩
  have hK : i + d + 2 ≤ p.length * (i + d + 2) := Nat.le_mul_of_pos_left _ (by omega)
  have k := (h (p.length * (i + d + 2) - 1 - (i + d + 1))).2.2.2 d d2 dn
  rw [show p.length * (i + d + 2) - 1 - (i + d + 1) + 1 = p.length * (i + d + 2) - 1 - (i + d) by omega, show p.length * (i + d + 2) - 1 - (i + d + 1) + d = p.length * (i + d + 2) - 1 - (i + 1) by omega, show p.length * (i + d + 2) - 1 - (i + 1) + 1 = p.length * (i + d + 2) - 1 - i by omega] at k
  rw [← rv (i + 4) i (by omega), ← rv (i + 4) (i + 1) (by omega), rv (i + d + 2) i (by omega), rv (i + d + 2) (i + 1) (by omega), rv (i + d + 2) (i + d) (by omega), rv (i + d + 2) (i + d + 1) (by omega), meet_swap, meet_comm]
  exact k
theorem vx_map {p : List Spot} (h : 0 < p.length) (φ : Spot → Spot) (i : Nat) : vx (p.map φ) i = φ (vx p i) := by
  have hr : i % p.length < p.length := Nat.mod_lt _ h
  simp [vx, hr]
theorem simple_map {p : List Spot} {φ : Spot → Spot} {σ : Int} (k : Iso φ σ) (h3 : 3 ≤ p.length) (h : Simple p) : Simple (p.map φ) := by
  rw [simple_cyc (by simpa using h3)]
  rw [simple_cyc h3] at h
  rw [List.length_map]
  intro i
  obtain ⟨a1, a2, a3, a4⟩ := h i
  simp only [vx_map (show 0 < p.length by omega), k.hold, k.meet]
  exact ⟨fun e => a1 (k.inj _ _ e), a2, a3, a4⟩
/-- A polygon of the program's. -/
structure Poly (p : List Spot) : Prop where
  three : 3 ≤ p.length
  forty : p.length ≤ 40
  grid : ∀ q, q ∈ p → G q
  simple : Simple p
theorem Poly.rot {a b : List Spot} (h : Poly (a ++ b)) : Poly (b ++ a) :=
  ⟨by have := h.three; simp at this ⊢; omega, by have := h.forty; simp at this ⊢; omega, fun q hq => h.grid q (by simp at hq ⊢; exact hq.symm), simple_rot h.three h.simple⟩
theorem Poly.rev {p : List Spot} (h : Poly p) : Poly p.reverse :=
  ⟨by simpa using h.three, by simpa using h.forty, fun q hq => h.grid q (by simpa using hq), simple_rev h.three h.simple⟩
theorem Poly.map {p : List Spot} {φ : Spot → Spot} {σ : Int} (k : Iso φ σ) (h : Poly p) : Poly (p.map φ) :=
  ⟨by simpa using h.three, by simpa using h.forty, fun q hq => by obtain ⟨q', h1, rfl⟩ := List.mem_map.1 hq; exact k.g _ (h.grid _ h1), simple_map k h.three h.simple⟩
end Go.Ab
end

section
namespace Go.Ab
open Go.Proofs
set_option maxRecDepth 10000
set_option linter.unusedVariables false

theorem adj_iff {l : List Spot} : Adj l ↔ ∃ i : Nat, ∃ h : i + 1 < l.length, l[i + 1] = l[i] := by
  constructor
  · rintro ⟨v, h1, h2, h3⟩
    obtain ⟨i, rfl⟩ : ∃ i : Nat, v = ((i + 1 : Nat) : Int) := ⟨(v - 1).toNat, by omega⟩
    refine ⟨i, by omega, ?_⟩
    rw [ai_get rfl (show i + 1 < l.length by omega), ai_get (i := i) (by omega) (by omega)] at h3
    exact h3
  · rintro ⟨i, h, e⟩
    exact ⟨((i + 1 : Nat) : Int), by omega, by omega, by rw [ai_get rfl h, ai_get (i := i) (by omega) (by omega)]; exact e⟩
theorem Line.rev {l : List Spot} (h : Line l) : Line l.reverse := by
  refine ⟨by simpa using h.two, by simpa using h.forty, fun p hp => h.grid p (by simpa using hp), fun ha => h.step ?_⟩
  obtain ⟨i, hi, e⟩ := adj_iff.1 ha
  rw [List.length_reverse] at hi
  refine adj_iff.2 ⟨l.length - 1 - (i + 1), by omega, ?_⟩
  rw [List.getElem_reverse, List.getElem_reverse] at e
  simp only [show l.length - 1 - (i + 1) + 1 = l.length - 1 - i by omega]
  exact e.symm
theorem Line.map {l : List Spot} {φ : Spot → Spot} {σ : Int} (k : Iso φ σ) (h : Line l) : Line (l.map φ) := by
  refine ⟨by simpa using h.two, by simpa using h.forty, fun p hp => ?_, fun ha => h.step ?_⟩
  · obtain ⟨q, hq, rfl⟩ := List.mem_map.1 hp; exact k.g _ (h.grid _ hq)
  · obtain ⟨i, hi, e⟩ := adj_iff.1 ha
    rw [List.length_map] at hi
    exact adj_iff.2 ⟨i, hi, k.inj _ _ (by simpa using e)⟩
theorem map_lin {l : List Spot} (h : ∀ p, p ∈ l → G p) (t : Turn) : l.map (app t) = l.map (lin t) := List.map_congr_left fun p hp => app_lin (h p hp).mild t
theorem polyT_eq {l : List Spot} (h : ∀ p, p ∈ l → G p) (t : Turn) : polyT t l = if t.flip = true then (l.map (lin t)).reverse else l.map (lin t) := by rw [polyT, map_lin h]
theorem Line.turn {l : List Spot} (h : Line l) (t : Turn) : Line (polyT t l) := by
  rw [polyT_eq h.grid]
  split
  · exact (h.map (iso_lin t)).rev
  · exact h.map (iso_lin t)
theorem eerr_iff {l : List Edge} : eerr l = 0 ↔ (∀ e, e ∈ l → isName e.name = true ∧ Line e.line) ∧ (l.map Edge.name).Nodup := by
  have at_ : ∀ i, (hi : i < l.length) → (edgeErr l i = 0 ↔ isName l[i].name = true ∧ (∀ j, (hj : j < i) → l[j].name ≠ l[i].name) ∧ Line l[i].line) := by
    intro i hi
    have e : edgeErr l i = if isName l[i].name = false then 1 else if bears (l.take i) l[i] = true then 7 else check l[i].line := by simp [edgeErr, hi]
    have eb : bears (l.take i) l[i] = true ↔ ∃ j, ∃ hj : j < i, l[j].name = l[i].name := by
      rw [bears, List.any_eq_true]
      constructor
      · rintro ⟨x, hx, h⟩
        obtain ⟨j, hj, rfl⟩ := List.getElem_of_mem hx
        rw [List.length_take] at hj
        exact ⟨j, by omega, by simpa using h⟩
      · rintro ⟨j, hj, h⟩
        exact ⟨l[j], List.mem_iff_getElem.2 ⟨j, by rw [List.length_take]; omega, by simp⟩, by simpa using h⟩
    rw [e]
    by_cases h1 : isName l[i].name = true
    · rw [if_neg (by simp [h1])]
      by_cases h2 : bears (l.take i) l[i] = true
      · rw [if_pos h2]
        obtain ⟨j, hj, hjn⟩ := eb.1 h2
        exact ⟨fun h => (by cases h), fun h => absurd hjn (h.2.1 j hj)⟩
      · rw [if_neg h2]
        exact ⟨fun h => ⟨h1, fun j hj hjn => h2 (eb.2 ⟨j, hj, hjn⟩), check_zero.1 h⟩, fun h => check_zero.2 h.2.2⟩
    · rw [if_pos (by simpa using h1)]
      exact ⟨fun h => (by cases h), fun h => absurd h.1 h1⟩
  constructor
  · intro h
    have h := eerr_inv h
    refine ⟨fun e he => ?_, ?_⟩
    · obtain ⟨i, hi, rfl⟩ := List.getElem_of_mem he
      have := (at_ i hi).1 (h i hi)
      exact ⟨this.1, this.2.2⟩
    · rw [List.Nodup, List.pairwise_iff_getElem]
      intro i j hi hj hij
      rw [List.length_map] at hi hj
      rw [List.getElem_map, List.getElem_map]
      exact ((at_ j hj).1 (h j hj)).2.1 i hij
  · rintro ⟨h1, h2⟩
    rw [List.Nodup, List.pairwise_iff_getElem] at h2
    refine eerr_0 fun i hi => (at_ i hi).2 ⟨(h1 _ (List.getElem_mem hi)).1, fun j hj => ?_, (h1 _ (List.getElem_mem hi)).2⟩
    have := h2 j i (by simpa using (by omega : j < l.length)) (by simpa using hi) hj
    simpa using this
theorem rev1_perm {α : Type} (l : List α) : (rev1 l).Perm l := by
  cases l with
  | nil => exact .refl _
  | cons x r => exact (List.reverse_perm r).cons x
theorem turnO_perm (t : Turn) (l : List Edge) : (turnO t l).Perm (l.map (turnE t)) := by
  unfold turnO; split
  · exact rev1_perm _
  · exact .refl _
theorem mem_turnO {t : Turn} {l : List Edge} {e : Edge} : e ∈ turnO t l ↔ ∃ x, x ∈ l ∧ turnE t x = e := by
  rw [(turnO_perm t l).mem_iff, List.mem_map]
theorem eerr_turn {l : List Edge} (h : eerr l = 0) (t : Turn) : eerr (turnO t l) = 0 := by
  rw [eerr_iff] at h ⊢
  refine ⟨fun e he => ?_, ?_⟩
  · obtain ⟨x, hx, rfl⟩ := mem_turnO.1 he
    exact ⟨(h.1 x hx).1, (h.1 x hx).2.turn t⟩
  · rw [((turnO_perm t l).map Edge.name).nodup_iff, List.map_map]
    exact h.2
/-- Element i of a list, round and round. -/
def cy {α : Type} [Inhabited α] (l : List α) (i : Nat) : α := (l[i % l.length]?).getD default
theorem cy_lt {α : Type} [Inhabited α] {l : List α} {i : Nat} (h : i < l.length) : cy l i = l[i] := by simp [cy, Nat.mod_eq_of_lt h, h]
theorem cy_mem {α : Type} [Inhabited α] {l : List α} (h : 0 < l.length) (i : Nat) : cy l i ∈ l := by
  have hm : i % l.length < l.length := Nat.mod_lt _ h
  simp only [cy, List.getElem?_eq_getElem hm, Option.getD_some]; exact List.getElem_mem hm
theorem cy_add {α : Type} [Inhabited α] (l : List α) (i : Nat) : cy l (i + l.length) = cy l i := by simp [cy]
theorem cy_mod {α : Type} [Inhabited α] (l : List α) (i : Nat) : cy l (i % l.length) = cy l i := by simp [cy]
def hd (e : Edge) : Spot := ai e.line 0
def lt (e : Edge) : Spot := ai e.line ((e.line.length : Int) - 1)
theorem hd_of {e : Edge} (h : 0 < e.line.length) : hd e = e.line[0] := ai_zero' h
where ai_zero' {l : List Spot} (h : 0 < l.length) : ai l 0 = l[0] := ai_get (i := 0) rfl h
theorem lt_of {e : Edge} (h : 0 < e.line.length) : lt e = e.line[e.line.length - 1] := ai_get (i := e.line.length - 1) (by omega) (by omega)
/-- Each edge ends where the next one begins. -/
def Chain (l : List Edge) : Prop := ∀ i, lt (cy l i) = hd (cy l (i + 1))
theorem joined_chain {l : List Edge} (h : 0 < l.length) : (∀ i, i < l.length → Joined l i) ↔ Chain l := by
  have ej : ∀ i, i < l.length → (Joined l i ↔ lt (cy l (i + l.length - 1)) = hd (cy l i)) := fun i hi => by
    have hm : (i + l.length - 1) % l.length < l.length := Nat.mod_lt _ h
    have e1 : ai l (((i + l.length - 1) % l.length : Nat) : Int) = cy l (i + l.length - 1) := by rw [ai_get rfl hm, ← cy_lt hm, cy_mod]
    have e2 : ai l (i : Int) = cy l i := by rw [ai_get rfl hi, cy_lt hi]
    unfold Joined
    rw [e1, e2]; rfl
  constructor
  · intro hj i
    have hm : (i + 1) % l.length < l.length := Nat.mod_lt _ h
    have := (ej _ hm).1 (hj _ hm)
    rw [cy_mod] at this
    rw [← this]
    congr 1
    simp only [cy]
    rw [show (i + 1) % l.length + l.length - 1 = (i + 1) % l.length + (l.length - 1) by omega, Nat.mod_add_mod, show i + 1 + (l.length - 1) = i + l.length by omega, Nat.add_mod_right]
  · intro hc i hi
    refine (ej i hi).2 ?_
    rw [hc, show i + l.length - 1 + 1 = i + l.length by omega, cy_add]
theorem cy_map {α β : Type} [Inhabited α] [Inhabited β] {l : List α} (h : 0 < l.length) (f : α → β) (i : Nat) : cy (l.map f) i = f (cy l i) := by
  have hr : i % l.length < l.length := Nat.mod_lt _ h
  simp [cy, hr]
theorem cy_rev1 {α : Type} [Inhabited α] {l : List α} {i : Nat} (hi : i ≤ l.length) (h : 0 < l.length) : cy (rev1 l) i = cy l (l.length - i) := by
  match l, h with
  | x :: r, _ =>
    simp only [rev1, List.length_cons, cy, List.length_reverse] at hi ⊢
    by_cases h0 : i = 0
    · subst h0; simp
    · by_cases h1 : i = r.length + 1
      · subst h1; simp
      · rw [Nat.mod_eq_of_lt (show i < r.length + 1 by omega), Nat.mod_eq_of_lt (show r.length + 1 - i < r.length + 1 by omega)]
        obtain ⟨j, rfl⟩ : ∃ j, i = j + 1 := ⟨i - 1, by omega⟩
        rw [List.getElem?_cons_succ, List.getElem?_reverse (by omega), show r.length + 1 - (j + 1) = (r.length - 1 - j) + 1 by omega, List.getElem?_cons_succ]
theorem hd_turn {e : Edge} (h : Line e.line) (t : Turn) : hd (turnE t e) = lin t (if t.flip = true then lt e else hd e) ∧ lt (turnE t e) = lin t (if t.flip = true then hd e else lt e) := by
  have h2 := h.two
  have hl : (turnE t e).line.length = e.line.length := polyT_len t _
  rw [hd_of (e := turnE t e) (by omega), lt_of (e := turnE t e) (by omega), hd_of (by omega), lt_of (by omega)]
  simp only [turnE, polyT_eq h.grid]
  split
  · simp
  · simp
theorem chain_turn {l : List Edge} (h : 0 < l.length) (hL : ∀ e, e ∈ l → Line e.line) (hc : Chain l) (t : Turn) : Chain (turnO t l) := by
  have hL' : ∀ i, Line (cy l i).line := fun i => hL _ (cy_mem h i)
  rw [← joined_chain (by rw [turnO_len]; exact h)]
  rw [joined_chain (by rw [turnO_len]; exact h)]
  intro i
  unfold turnO
  cases hf : t.flip with
  | false =>
    simp only [Bool.false_eq_true, if_false]
    rw [cy_map h, cy_map h, (hd_turn (hL' _) t).2, (hd_turn (hL' _) t).1, hf]
    simp only [Bool.false_eq_true, if_false]
    rw [hc]
  | true =>
    simp only [if_true]
    have hml : (l.map (turnE t)).length = l.length := List.length_map _
    have hr : i % l.length < l.length := Nat.mod_lt _ h
    have e1 : cy (rev1 (l.map (turnE t))) i = cy (rev1 (l.map (turnE t))) (i % l.length) := by
      have := cy_mod (rev1 (l.map (turnE t))) i
      rw [rev1_len, hml] at this; exact this.symm
    have e2 : cy (rev1 (l.map (turnE t))) (i + 1) = cy (rev1 (l.map (turnE t))) (i % l.length + 1) := by
      simp only [cy, rev1_len, hml, Nat.mod_add_mod]
    rw [e1, e2, cy_rev1 (by omega) (by omega), cy_rev1 (by omega) (by omega), hml, cy_map h, cy_map h, (hd_turn (hL' _) t).2, (hd_turn (hL' _) t).1, hf]
    simp only [if_true]
    rw [hc, show l.length - (i % l.length + 1) + 1 = l.length - i % l.length by omega]
/-- The vertices, without the first one of each edge. -/
def tailsL (l : List Edge) : List Spot := l.flatMap fun e => e.line.tail
theorem dl_last (L : List Spot) (h : 0 < L.length) : L.dropLast ++ [L[L.length - 1]] = L := by
  have hn : L ≠ [] := by rintro rfl; simp at h
  rw [← List.getLast_eq_getElem hn]; exact List.dropLast_concat_getLast hn
theorem hd_tail (L : List Spot) (h : 0 < L.length) : L[0] :: L.tail = L := by
  cases L with
  | nil => simp at h
  | cons x r => rfl
theorem tails_verts : ∀ {l : List Edge} (hl : l ≠ []) (h2 : ∀ e, e ∈ l → 2 ≤ e.line.length) (hc : ∀ i, (h : i + 1 < l.length) → lt l[i] = hd l[i + 1]), vertsL l ++ [lt (l.getLast hl)] = hd (l.head hl) :: tailsL l
  | [e], _, h2, _ => by
    have := h2 e (by simp)
    simp only [vertsL, tailsL, List.flatMap_cons, List.flatMap_nil, List.append_nil, List.getLast_singleton, List.head_cons]
    rw [lt_of (by omega), hd_of (by omega), dl_last _ (by omega), hd_tail _ (by omega)]
  | e :: f :: r, _, h2, hc => by
    have ih := tails_verts (l := f :: r) (by simp) (fun x hx => h2 x (List.mem_cons_of_mem _ hx)) (fun i h => hc (i + 1) (by simpa using h))
    have he := h2 e (by simp)
    have h0 := hc 0 (by simp)
    simp only [List.getElem_cons_zero, List.getElem_cons_succ] at h0
    rw [List.getLast_cons (by simp)]
    show e.line.dropLast ++ vertsL (f :: r) ++ _ = _ :: (e.line.tail ++ tailsL (f :: r))
    rw [List.append_assoc, ih]
    simp only [List.head_cons]
    rw [← h0, lt_of (by omega), hd_of (by omega), List.append_cons, dl_last _ (by omega), ← List.cons_append, hd_tail _ (by omega)]
theorem verts_map {l : List Edge} {t : Turn} (hf : t.flip = false) (hL : ∀ e, e ∈ l → ∀ p, p ∈ e.line → G p) : vertsL (l.map (turnE t)) = (vertsL l).map (lin t) := by
  induction l with
  | nil => rfl
  | cons e r ih =>
    have := ih fun x hx => hL x (List.mem_cons_of_mem _ hx)
    simp only [vertsL, List.map_cons, List.flatMap_cons, List.map_append] at this ⊢
    rw [this]
    simp only [turnE, polyT_eq (hL e List.mem_cons_self), hf, Bool.false_eq_true, if_false, List.map_dropLast]
theorem verts_flip {l : List Edge} {t : Turn} (hf : t.flip = true) (hL : ∀ e, e ∈ l → ∀ p, p ∈ e.line → G p) : vertsL ((l.map (turnE t)).reverse) = ((tailsL l).reverse).map (lin t) := by
  induction l with
  | nil => rfl
  | cons e r ih =>
    have := ih fun x hx => hL x (List.mem_cons_of_mem _ hx)
    simp only [vertsL, tailsL, List.map_cons, List.reverse_cons, List.flatMap_append, List.flatMap_cons, List.flatMap_nil, List.append_nil, List.reverse_append, List.map_append] at this ⊢
    rw [this]
    congr 1
    simp only [turnE, polyT_eq (hL e List.mem_cons_self), hf, if_true]
    rw [List.dropLast_reverse, ← List.map_tail, List.map_reverse]
/-- The vertices of a turned outline are the turned ones, perhaps rotated and reversed. -/
theorem verts_turn {l : List Edge} (h : 2 ≤ l.length) (hL : ∀ e, e ∈ l → Line e.line) (hc : Chain l) (t : Turn) : (t.flip = false ∧ vertsL (turnO t l) = (vertsL l).map (lin t)) ∨
    (t.flip = true ∧ ∃ x v a b, vertsL l = x :: v ∧ v ++ [x] = a ++ b ∧ vertsL (turnO t l) = ((b ++ a).reverse).map (lin t)) := by
  have hG : ∀ e, e ∈ l → ∀ p, p ∈ e.line → G p := fun e he => (hL e he).grid
  cases hf : t.flip with
  | false => left; exact ⟨rfl, by simp only [turnO, hf, Bool.false_eq_true, if_false]; exact verts_map hf hG⟩
  | true =>
    right
    refine ⟨rfl, ?_⟩
    match l, h with
    | e :: r, h =>
      have hc' : ∀ i, (hi : i + 1 < (e :: r).length) → lt (e :: r)[i] = hd (e :: r)[i + 1] := fun i hi => by
        have := hc i
        rwa [cy_lt (by omega), cy_lt hi] at this
      have tv := tails_verts (l := e :: r) (by simp) (fun x hx => (hL x hx).two) hc'
      have hlast : lt ((e :: r).getLast (by simp)) = hd ((e :: r).head (by simp)) := by
        have := hc r.length
        have e0 : cy (e :: r) (r.length + 1) = cy (e :: r) 0 := by simp [cy]
        rw [e0, cy_lt (by simp), cy_lt (by simp)] at this
        rw [List.getLast_eq_getElem, List.head_eq_getElem]; simpa using this
      rw [hlast] at tv
      have hv : vertsL (e :: r) ≠ [] := by
        intro h0
        have h2 := (hL e List.mem_cons_self).two
        have : (vertsL (e :: r)).length = 0 := by rw [h0]; rfl
        simp only [vertsL, List.flatMap_cons, List.length_append, List.length_dropLast] at this
        omega
      match hvv : vertsL (e :: r), hv with
      | x :: v, _ =>
        rw [hvv] at tv
        simp only [List.cons_append, List.cons.injEq] at tv
        refine ⟨x, v, e.line.tail, tailsL r, rfl, ?_, ?_⟩
        · rw [tv.1]; exact tv.2
        · simp only [turnO, hf, if_true, List.map_cons, rev1]
          show (turnE t e).line.dropLast ++ vertsL ((r.map (turnE t)).reverse) = _
          rw [verts_flip hf fun x hx => hG x (List.mem_cons_of_mem _ hx), List.reverse_append, List.map_append]
          congr 1
          simp only [turnE, polyT_eq (hG e List.mem_cons_self), hf, if_true]
          rw [List.dropLast_reverse, ← List.map_tail, List.map_reverse]
theorem poly_turn {l : List Edge} (h : 2 ≤ l.length) (hL : ∀ e, e ∈ l → Line e.line) (hc : Chain l) (t : Turn) (hp : Poly (vertsL l)) : Poly (vertsL (turnO t l)) := by
  rcases verts_turn h hL hc t with ⟨_, e⟩ | ⟨_, x, v, a, b, e1, e2, e3⟩
  · rw [e]; exact hp.map (iso_lin t)
  · rw [e3]
    refine Poly.map (iso_lin t) (Poly.rev (Poly.rot ?_))
    rw [← e2]
    rw [e1] at hp
    exact Poly.rot (a := [x]) (b := v) hp
/-- What an outline is. -/
structure Outl (l : List Edge) : Prop where
  two : 2 ≤ l.length
  sixteen : l.length ≤ 16
  edges : eerr l = 0
  chain : Chain l
  poly : Poly (vertsL l)
theorem Outl.lines {l : List Edge} (h : Outl l) : ∀ e, e ∈ l → Line e.line := fun e he => ((eerr_iff.1 h.edges).1 e he).2
theorem Outl.turn {l : List Edge} (h : Outl l) (t : Turn) : Outl (turnO t l) :=
  ⟨by rw [turnO_len]; exact h.two, by rw [turnO_len]; exact h.sixteen, eerr_turn h.edges t, chain_turn (by have := h.two; omega) h.lines h.chain t, poly_turn h.two h.lines h.chain t h.poly⟩
end Go.Ab
end
