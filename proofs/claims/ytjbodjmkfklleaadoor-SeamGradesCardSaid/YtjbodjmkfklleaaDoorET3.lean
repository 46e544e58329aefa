/- Turns, as the program reckons them. -/
import Derived.Test.YtjbodjmkfklleaaDoorEG12
set_option linter.unusedVariables false
set_option linter.unusedSimpArgs false
set_option linter.unusedSectionVars false

section
namespace Go.Ab
open Go.Proofs
set_option maxRecDepth 10000
set_option linter.unusedVariables false

/-- The negative, as the machine reckons it. -/
def ng (n : Int) : Int := IntKind.wrap .i64 (-n)
def fx (f : Bool) (s : Spot) : Spot := if f = true then ⟨ng s.x, s.y⟩ else s
def qt (q : Int) (s : Spot) : Spot := if q = 1 then ⟨ng s.y, s.x⟩ else if q = 2 then ⟨ng s.x, ng s.y⟩ else if q = 3 then ⟨s.y, ng s.x⟩ else s
/-- The image of a spot. -/
def app (t : Turn) (s : Spot) : Spot := qt (t.quarter % 4) (fx t.flip s)
theorem ret_apply (t : Turn) (s : Spot) (h : InR t.quarter) : Ret Tryd.prog XS 21 [.agg [boo t.flip, int t.quarter], .agg [int s.x, int s.y]] (.agg [int (app t s).x, int (app t s).y]) := by
  refine turn_Apply_W t s (app t s) ⟨fun hf => ⟨h, fun h1 => ?_, fun h1 => ⟨fun h2 => ?_, fun h2 => ⟨fun h3 => ?_, fun h3 => ?_⟩⟩⟩, fun hf => ⟨h, fun h1 => ?_, fun h1 => ⟨fun h2 => ?_, fun h2 => ⟨fun h3 => ?_, fun h3 => ?_⟩⟩⟩⟩
  all_goals simp [app, qt, fx, ng, hf, *]
/-- The image of a line. -/
def polyT (t : Turn) (p : List Spot) : List Spot := if t.flip = true then (p.map (app t)).reverse else p.map (app t)
theorem polyT_len (t : Turn) (p : List Spot) : (polyT t p).length = p.length := by unfold polyT; split <;> simp
def turnE (t : Turn) (e : Edge) : Edge := ⟨e.name, polyT t e.line⟩
/-- A list whose first element stays, and whose others are turned round. -/
def rev1 {α : Type} : List α → List α
  | [] => []
  | x :: r => x :: r.reverse
theorem rev1_len {α : Type} (l : List α) : (rev1 l).length = l.length := by cases l <;> simp [rev1]
/-- The image of an outline. -/
def turnO (t : Turn) (l : List Edge) : List Edge := if t.flip = true then rev1 (l.map (turnE t)) else l.map (turnE t)
theorem turnO_len (t : Turn) (l : List Edge) : (turnO t l).length = l.length := by unfold turnO; split <;> simp [rev1_len]
end Go.Ab
end

section
namespace Go.Ab
open Go.Proofs
set_option maxRecDepth 10000
set_option linter.unusedVariables false

theorem set_at {α : Type} {w : List α} {i j : Nat} {a : α} {b : Option α} (hi : i < w.length) (he : j = i → b = some a) (hn : j ≠ i → w[j]? = b) : (w.set ((i : Int)).toNat a)[j]? = b := by
  rw [show ((i : Int)).toNat = i from rfl, List.getElem?_set]
  by_cases h : i = j
  · rw [if_pos h, if_pos hi, he h.symm]
  · rw [if_neg h, hn (fun e => h e.symm)]
end Go.Ab
end

section
namespace Go.Ab
open Go.Proofs
set_option maxRecDepth 10000
set_option linter.unusedVariables false

theorem ng_in {n : Int} (h : InR n) (h2 : n ≠ -9223372036854775808) : ng n = -n := wi64 ⟨by omega, by omega⟩
theorem ng_eq {n : Int} (h : InR n) : ng n = if n = -9223372036854775808 then n else -n := by
  split
  · rename_i e; subst e; rfl
  · rename_i e; exact ng_in h e
theorem ng_range {n : Int} (h : InR n) : InR (ng n) := by rw [ng_eq h]; split <;> exact ⟨by omega, by omega⟩
def Wd (p : Spot) : Prop := InR p.x ∧ InR p.y
theorem Wd.fx {p : Spot} (h : Wd p) (f : Bool) : Wd (fx f p) := by unfold Go.Ab.fx; split; exact ⟨ng_range h.1, h.2⟩; exact h
theorem Wd.qt {p : Spot} (h : Wd p) (q : Int) : Wd (qt q p) := by
  unfold Go.Ab.qt
  split
  · exact ⟨ng_range h.2, h.1⟩
  · split
    · exact ⟨ng_range h.1, ng_range h.2⟩
    · split
      · exact ⟨h.2, ng_range h.1⟩
      · exact h
theorem Wd.app {p : Spot} (h : Wd p) (t : Turn) : Wd (app t p) := (h.fx _).qt _
theorem q4 (q : Int) : q % 4 = 0 ∨ q % 4 = 1 ∨ q % 4 = 2 ∨ q % 4 = 3 := by omega
/-! Without the machine's edges. -/
def fl (p : Spot) : Spot := ⟨-p.x, p.y⟩
def ro (p : Spot) : Spot := ⟨-p.y, p.x⟩
def lin (t : Turn) (p : Spot) : Spot :=
  let p' := if t.flip = true then fl p else p
  if t.quarter % 4 = 1 then ro p' else if t.quarter % 4 = 2 then ro (ro p') else if t.quarter % 4 = 3 then ro (ro (ro p')) else p'
def Mild (p : Spot) : Prop := (-9223372036854775807 ≤ p.x ∧ p.x ≤ 9223372036854775807) ∧ -9223372036854775807 ≤ p.y ∧ p.y ≤ 9223372036854775807
theorem G.mild {p : Spot} (h : G p) : Mild p := by obtain ⟨⟨a, b⟩, c, d⟩ := h; exact ⟨⟨by omega, by omega⟩, by omega, by omega⟩
theorem app_lin {p : Spot} (h : Mild p) (t : Turn) : app t p = lin t p := by
  obtain ⟨⟨a, b⟩, c, d⟩ := h
  have e1 : ng p.x = -p.x := ng_in ⟨by omega, by omega⟩ (by omega)
  have e2 : ng p.y = -p.y := ng_in ⟨by omega, by omega⟩ (by omega)
  have e3 : ng (-p.x) = p.x := by rw [ng_in ⟨by omega, by omega⟩ (by omega)]; omega
  unfold app lin
  cases t.flip <;> rcases q4 t.quarter with e | e | e | e <;> rw [e] <;> simp [fx, qt, fl, ro, e1, e2, e3]
def cr (a b : Spot) : Int := a.x * b.y - a.y * b.x
/-- What a turn keeps. -/
structure Iso (φ : Spot → Spot) (σ : Int) : Prop where
  sg : σ = 1 ∨ σ = -1
  g : ∀ p, G p → G (φ p)
  inj : ∀ p q, φ p = φ q → p = q
  tn : ∀ a b c, tn (φ a) (φ b) (φ c) = σ * tn a b c
  wi : ∀ a b q, (wi (φ q).x (φ a).x (φ b).x && wi (φ q).y (φ a).y (φ b).y) = (wi q.x a.x b.x && wi q.y a.y b.y)
  sq : ∀ a b, sq (φ a) (φ b) = sq a b
  cr : ∀ a b, cr (φ a) (φ b) = σ * cr a b
  add : ∀ p q, φ ⟨p.x + q.x, p.y + q.y⟩ = ⟨(φ p).x + (φ q).x, (φ p).y + (φ q).y⟩
  mul : ∀ m p, φ ⟨m * p.x, m * p.y⟩ = ⟨m * (φ p).x, m * (φ p).y⟩
  shl : ∀ (n k : Nat) a b, φ ⟨sh n k a.x b.x, sh n k a.y b.y⟩ = ⟨sh n k (φ a).x (φ b).x, sh n k (φ a).y (φ b).y⟩
  sm : ∀ p, shifted p = true → shifted (φ p) = true
theorem shr_neg (n s : Int) : shr (-n) s = -shr n s := by
  unfold shr
  by_cases h : n < 0
  · rw [if_neg (by omega), if_pos h, Int.neg_neg]
  · by_cases h0 : n = 0
    · subst h0
      simp only [Int.neg_zero, Int.lt_irrefl, if_false, Int.mul_zero, Int.zero_add]
      by_cases hs : s = 0
      · subst hs; rfl
      · have : s.tdiv (2 * s) = 0 := by
          rcases Int.lt_or_gt_of_ne hs with h | h
          · rw [show s = -(-s) by omega, Int.mul_neg, Int.neg_tdiv, Int.tdiv_neg, Int.neg_neg, Int.tdiv_eq_zero_of_lt (by omega) (by omega)]
          · exact Int.tdiv_eq_zero_of_lt (by omega) (by omega)
        omega
    · rw [if_pos (by omega), if_neg h, Int.neg_neg]
theorem sh_neg (n k : Nat) (a b : Int) : sh n k (-a) (-b) = -sh n k a b := by
  unfold sh
  rw [← shr_neg, Int.mul_neg, Int.mul_neg]
  congr 1; omega
theorem wi_neg (n a b : Int) : Go.Ab.wi (-n) (-a) (-b) = Go.Ab.wi n a b := by
  unfold Go.Ab.wi
  rw [Bool.eq_iff_iff]
  simp only [Bool.and_eq_true, decide_eq_true_eq]
  omega
theorem iso_fl : Iso fl (-1) where
  sg := .inr rfl
  g := by rintro p ⟨⟨a, b⟩, c, d⟩; exact ⟨⟨by simp only [fl]; omega, by simp only [fl]; omega⟩, c, d⟩
  inj := by rintro ⟨a, b⟩ ⟨c, d⟩ h; simp only [fl, Spot.mk.injEq] at h ⊢; omega
  tn := by
    intro a b c
    simp only [fl, Go.Ab.tn]
    rw [show -b.x - -a.x = -(b.x - a.x) by omega, show -c.x - -b.x = -(c.x - b.x) by omega, Int.neg_mul, Int.mul_neg]; omega
  wi := by intro a b q; simp only [fl, wi_neg]
  sq := by
    intro a b
    simp only [fl, Go.Ab.sq]
    rw [show -b.x - -a.x = -(b.x - a.x) by omega, Int.neg_mul_neg]
  cr := by intro a b; simp only [fl, Go.Ab.cr, Int.neg_mul, Int.mul_neg]; omega
  add := by intro p q; simp only [fl, Spot.mk.injEq]; exact ⟨by omega, trivial⟩
  mul := by intro m p; simp only [fl, Int.mul_neg]
  shl := by intro n k a b; simp only [fl, sh_neg]
  sm := by intro p h; simp only [shifted, small, Bool.and_eq_true, decide_eq_true_eq] at h ⊢; dsimp only [fl]; omega
theorem iso_ro : Iso ro 1 where
  sg := .inl rfl
  g := by rintro p ⟨⟨a, b⟩, c, d⟩; exact ⟨⟨by simp only [ro]; omega, by simp only [ro]; omega⟩, a, b⟩
  inj := by rintro ⟨a, b⟩ ⟨c, d⟩ h; simp only [ro, Spot.mk.injEq] at h ⊢; omega
  tn := by
    intro a b c
    simp only [ro, Go.Ab.tn]
    rw [show -b.y - -a.y = -(b.y - a.y) by omega, show -c.y - -b.y = -(c.y - b.y) by omega, Int.neg_mul, Int.mul_neg]; omega
  wi := by intro a b q; simp only [ro, wi_neg]; rw [Bool.and_comm]
  sq := by
    intro a b
    simp only [ro, Go.Ab.sq]
    rw [show -b.y - -a.y = -(b.y - a.y) by omega, Int.neg_mul_neg]; omega
  cr := by intro a b; simp only [ro, Go.Ab.cr, Int.neg_mul, Int.mul_neg]; rw [Int.mul_comm a.y b.x, Int.mul_comm a.x b.y]; have := Int.mul_comm a.x b.y; have := Int.mul_comm a.y b.x; omega
  add := by intro p q; simp only [ro, Spot.mk.injEq]; exact ⟨by omega, trivial⟩
  mul := by intro m p; simp only [ro, Int.mul_neg]
  shl := by intro n k a b; simp only [ro, sh_neg]
  sm := by intro p h; simp only [shifted, small, Bool.and_eq_true, decide_eq_true_eq] at h ⊢; dsimp only [ro]; omega
theorem Iso.comp {φ ψ : Spot → Spot} {σ τ : Int} (h : Iso φ σ) (k : Iso ψ τ) : Iso (fun p => ψ (φ p)) (τ * σ) where
  sg := by rcases h.sg with e | e <;> rcases k.sg with e' | e' <;> subst e e' <;> decide
  g := fun p hp => k.g _ (h.g _ hp)
  inj := fun p q e => h.inj _ _ (k.inj _ _ e)
  tn := fun a b c => by rw [k.tn, h.tn, Int.mul_assoc]
  wi := fun a b q => by rw [k.wi, h.wi]
  sq := fun a b => by rw [k.sq, h.sq]
  cr := fun a b => by rw [k.cr, h.cr, Int.mul_assoc]
  add := fun p q => by rw [h.add, k.add]
  mul := fun m p => by rw [h.mul, k.mul]
  shl := fun n i a b => by rw [h.shl, k.shl]
  sm := fun p hp => k.sm _ (h.sm _ hp)
theorem iso_id : Iso (fun p => p) 1 where
  sg := .inl rfl
  g := fun p h => h
  inj := fun p q e => e
  tn := fun a b c => by omega
  wi := fun a b q => rfl
  sq := fun a b => rfl
  cr := fun a b => by omega
  add := fun p q => rfl
  mul := fun m p => rfl
  shl := fun n i a b => rfl
  sm := fun p hp => hp
def sgn (t : Turn) : Int := if t.flip = true then -1 else 1
theorem iso_lin (t : Turn) : Iso (lin t) (sgn t) := by
  have h0 : Iso (fun p => if t.flip = true then fl p else p) (sgn t) := by
    unfold sgn
    cases t.flip with
    | true => exact iso_fl
    | false => exact iso_id
  have r1 := h0.comp iso_ro
  have r2 := r1.comp iso_ro
  have r3 := r2.comp iso_ro
  simp only [Int.one_mul] at r1 r2 r3
  unfold lin
  rcases q4 t.quarter with e | e | e | e <;> rw [e]
  · exact h0
  · exact r1
  · exact r2
  · exact r3
theorem Iso.hold {φ : Spot → Spot} {σ : Int} (h : Iso φ σ) (a b q : Spot) : hold (φ a) (φ b) (φ q) = hold a b q := by
  unfold Go.Ab.hold
  rw [h.wi, h.tn]
  congr 1
  rw [decide_eq_decide]
  rcases h.sg with e | e <;> subst e <;> omega
theorem Iso.divi {φ : Spot → Spot} {σ : Int} (h : Iso φ σ) (a b p q : Spot) : divi (φ a) (φ b) (φ p) (φ q) = divi a b p q := by
  unfold Go.Ab.divi
  rw [h.tn, h.tn, Bool.eq_iff_iff]
  simp only [Bool.or_eq_true, Bool.and_eq_true, decide_eq_true_eq]
  rcases h.sg with e | e <;> subst e <;> omega
theorem Iso.meet {φ : Spot → Spot} {σ : Int} (h : Iso φ σ) (a b c d : Spot) : meet (φ a) (φ b) (φ c) (φ d) = meet a b c d := by
  unfold Go.Ab.meet
  rw [h.hold, h.hold, h.hold, h.hold, h.divi, h.divi]
end Go.Ab
end
