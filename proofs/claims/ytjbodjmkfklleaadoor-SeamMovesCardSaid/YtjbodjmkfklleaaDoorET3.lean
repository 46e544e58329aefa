/- Turns, as the program reckons them. -/
import Derived.Test.YtjbodjmkfklleaaDoorEG12
set_option linter.unusedVariables false
set_option linter.unusedSimpArgs false
set_option linter.unusedSectionVars false

section
namespace Go.Ab
open Go.Proofs
set_option maxRecDepth 10000
set_option linter.unusedVariables false

/-- The negative, as the machine reckons it. -/
def ng (n : Int) : Int := IntKind.wrap .i64 (-n)
def fx (f : Bool) (s : Spot) : Spot := if f = true then ⟨ng s.x, s.y⟩ else s
def qt (q : Int) (s : Spot) : Spot := if q = 1 then ⟨ng s.y, s.x⟩ else if q = 2 then ⟨ng s.x, ng s.y⟩ else if q = 3 then ⟨s.y, ng s.x⟩ else s
/-- The image of a spot. -/
def app (t : Turn) (s : Spot) : Spot := qt (t.quarter % 4) (fx t.flip s)
theorem ret_apply (t : Turn) (s : Spot) (h : InR t.quarter) : Ret Tryd.prog XS 21 [.agg [boo t.flip, int t.quarter], .agg [int s.x, int s.y]] (.agg [int (app t s).x, int (app t s).y]) := by
  refine turn_Apply_W t s (app t s) ⟨fun hf => ⟨h, fun h1 => ?_, fun h1 => ⟨fun h2 => ?_, fun h2 => ⟨fun h3 => ?_, fun h3 => ?_⟩⟩⟩, fun hf => ⟨h, fun h1 => ?_, fun h1 => ⟨fun h2 => ?_, fun h2 => ⟨fun h3 => ?_, fun h3 => ?_⟩⟩⟩⟩
  all_goals simp [app, qt, fx, ng, hf, *]
end Go.Ab
end

section
namespace Go.Ab
open Go.Proofs
set_option maxRecDepth 10000
set_option linter.unusedVariables false

theorem set_at {α : Type} {w : List α} {i j : Nat} {a : α} {b : Option α} (hi : i < w.length) (he : j = i → b = some a) (hn : j ≠ i → w[j]? = b) : (w.set ((i : Int)).toNat a)[j]? = b := by
  rw [show ((i : Int)).toNat = i from rfl, List.getElem?_set]
  by_cases h : i = j
  · rw [if_pos h, if_pos hi, he h.symm]
  · rw [if_neg h, hn (fun e => h e.symm)]
end Go.Ab
end

section
namespace Go.Ab
open Go.Proofs
set_option maxRecDepth 10000
set_option linter.unusedVariables false

theorem ng_in {n : Int} (h : InR n) (h2 : n ≠ -9223372036854775808) : ng n = -n := wi64 ⟨by omega, by omega⟩
theorem ng_eq {n : Int} (h : InR n) : ng n = if n = -9223372036854775808 then n else -n := by
  split
  · rename_i e; subst e; rfl
  · rename_i e; exact ng_in h e
theorem ng_range {n : Int} (h : InR n) : InR (ng n) := by rw [ng_eq h]; split <;> exact ⟨by omega, by omega⟩
theorem ng_ng {n : Int} (h : InR n) : ng (ng n) = n := by
  by_cases e : n = -9223372036854775808
  · subst e; rfl
  · rw [ng_in h e, ng_in ⟨by have := h.1; omega, by have := h.1; omega⟩ (by have := h.2; omega)]; omega
def Wd (p : Spot) : Prop := InR p.x ∧ InR p.y
theorem Wd.fx {p : Spot} (h : Wd p) (f : Bool) : Wd (fx f p) := by unfold Go.Ab.fx; split; exact ⟨ng_range h.1, h.2⟩; exact h
theorem Wd.qt {p : Spot} (h : Wd p) (q : Int) : Wd (qt q p) := by
  unfold Go.Ab.qt
  split
  · exact ⟨ng_range h.2, h.1⟩
  · split
    · exact ⟨ng_range h.1, ng_range h.2⟩
    · split
      · exact ⟨h.2, ng_range h.1⟩
      · exact h
theorem Wd.app {p : Spot} (h : Wd p) (t : Turn) : Wd (app t p) := (h.fx _).qt _
theorem q4 (q : Int) : q % 4 = 0 ∨ q % 4 = 1 ∨ q % 4 = 2 ∨ q % 4 = 3 := by omega
/-! Without the machine's edges. -/
def cr (a b : Spot) : Int := a.x * b.y - a.y * b.x
/-- What a turn keeps. -/
structure Iso (φ : Spot → Spot) (σ : Int) : Prop where
  sg : σ = 1 ∨ σ = -1
  g : ∀ p, G p → G (φ p)
  inj : ∀ p q, φ p = φ q → p = q
  tn : ∀ a b c, tn (φ a) (φ b) (φ c) = σ * tn a b c
  wi : ∀ a b q, (wi (φ q).x (φ a).x (φ b).x && wi (φ q).y (φ a).y (φ b).y) = (wi q.x a.x b.x && wi q.y a.y b.y)
  sq : ∀ a b, sq (φ a) (φ b) = sq a b
  cr : ∀ a b, cr (φ a) (φ b) = σ * cr a b
  add : ∀ p q, φ ⟨p.x + q.x, p.y + q.y⟩ = ⟨(φ p).x + (φ q).x, (φ p).y + (φ q).y⟩
  mul : ∀ m p, φ ⟨m * p.x, m * p.y⟩ = ⟨m * (φ p).x, m * (φ p).y⟩
  shl : ∀ (n k : Nat) a b, φ ⟨sh n k a.x b.x, sh n k a.y b.y⟩ = ⟨sh n k (φ a).x (φ b).x, sh n k (φ a).y (φ b).y⟩
  sm : ∀ p, shifted p = true → shifted (φ p) = true
theorem Iso.hold {φ : Spot → Spot} {σ : Int} (h : Iso φ σ) (a b q : Spot) : hold (φ a) (φ b) (φ q) = hold a b q := by
  unfold Go.Ab.hold
  rw [h.wi, h.tn]
  congr 1
  rw [decide_eq_decide]
  rcases h.sg with e | e <;> subst e <;> omega
end Go.Ab
end
