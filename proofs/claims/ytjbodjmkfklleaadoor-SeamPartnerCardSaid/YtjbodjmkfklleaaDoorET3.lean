/- Turns, as the program reckons them. -/
import Derived.Test.YtjbodjmkfklleaaDoorEG12
set_option linter.unusedVariables false
set_option linter.unusedSimpArgs false
set_option linter.unusedSectionVars false

section
namespace Go.Ab
open Go.Proofs
set_option maxRecDepth 10000
set_option linter.unusedVariables false

theorem q4 (q : Int) : q % 4 = 0 ∨ q % 4 = 1 ∨ q % 4 = 2 ∨ q % 4 = 3 := by omega
/-! Without the machine's edges. -/
def cr (a b : Spot) : Int := a.x * b.y - a.y * b.x
/-- What a turn keeps. -/
structure Iso (φ : Spot → Spot) (σ : Int) : Prop where
  sg : σ = 1 ∨ σ = -1
  g : ∀ p, G p → G (φ p)
  inj : ∀ p q, φ p = φ q → p = q
  tn : ∀ a b c, tn (φ a) (φ b) (φ c) = σ * tn a b c
  wi : ∀ a b q, (wi (φ q).x (φ a).x (φ b).x && wi (φ q).y (φ a).y (φ b).y) = (wi q.x a.x b.x && wi q.y a.y b.y)
  sq : ∀ a b, sq (φ a) (φ b) = sq a b
  cr : ∀ a b, cr (φ a) (φ b) = σ * cr a b
  add : ∀ p q, φ ⟨p.x + q.x, p.y + q.y⟩ = ⟨(φ p).x + (φ q).x, (φ p).y + (φ q).y⟩
  mul : ∀ m p, φ ⟨m * p.x, m * p.y⟩ = ⟨m * (φ p).x, m * (φ p).y⟩
  shl : ∀ (n k : Nat) a b, φ ⟨sh n k a.x b.x, sh n k a.y b.y⟩ = ⟨sh n k (φ a).x (φ b).x, sh n k (φ a).y (φ b).y⟩
  sm : ∀ p, shifted p = true → shifted (φ p) = true
theorem Iso.hold {φ : Spot → Spot} {σ : Int} (h : Iso φ σ) (a b q : Spot) : hold (φ a) (φ b) (φ q) = hold a b q := by
  unfold Go.Ab.hold
  rw [h.wi, h.tn]
  congr 1
  rw [decide_eq_decide]
  rcases h.sg with e | e <;> subst e <;> omega
end Go.Ab
end
