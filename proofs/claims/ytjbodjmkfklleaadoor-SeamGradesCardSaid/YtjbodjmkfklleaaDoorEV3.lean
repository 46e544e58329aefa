/- Congruent lists. -/
import Derived.Test.YtjbodjmkfklleaaDoorEV2
import Derived.Test.YtjbodjmkfklleaaDoorET3
set_option linter.unusedVariables false
set_option linter.unusedSimpArgs false
set_option linter.unusedSectionVars false

namespace Go.Ab
open Go.Proofs
set_option maxRecDepth 10000
set_option linter.unusedVariables false

def wr (n : Int) : Int := IntKind.wrap .i64 n
theorem w64_in {n : Int} (h : InR n) : wr n = n := wi64 h
def mvW (d p : Spot) : Spot := ⟨wr (p.x + d.x), wr (p.y + d.y)⟩
/-- The move from p to q. -/
def dW (p q : Spot) : Spot := ⟨wr (q.x - p.x), wr (q.y - p.y)⟩
/-- One move takes a to b. -/
def Fit (a b : List Spot) : Prop := ∀ k : Nat, k < a.length → mvW (dW (ai a 0) (ai b 0)) (ai a (k : Int)) = ai b (k : Int)
def tt (i : Int) : Turn := ⟨decide (i ≥ 4), i.tmod 4⟩
open Classical in
noncomputable def fitB (a b : List Spot) (i : Nat) : Bool := decide (Fit (a.map (app (tt i))) b)
noncomputable def conI (a b : List Spot) : Option Nat := if a.length = 0 ∨ a.length ≠ b.length then none else (List.range 8).find? (fitB a b)
noncomputable def conT (a b : List Spot) : Turn := match conI a b with | some i => tt i | none => ⟨false, 0⟩
noncomputable def conD (a b : List Spot) : Spot := match conI a b with | some i => dW (ai (a.map (app (tt i))) 0) (ai b 0) | none => ⟨0, 0⟩
noncomputable def conB (a b : List Spot) : Bool := (conI a b).isSome
theorem fitB_iff {a b : List Spot} {i : Nat} : fitB a b i = true ↔ Fit (a.map (app (tt i))) b := by simp [fitB]
theorem con_none {a b : List Spot} (h : conI a b = none) : conT a b = ⟨false, 0⟩ ∧ conD a b = ⟨0, 0⟩ ∧ conB a b = false := by simp [conT, conD, conB, h]
theorem con_some {a b : List Spot} {i : Nat} (h : conI a b = some i) : conT a b = tt i ∧ conD a b = dW (ai (a.map (app (tt i))) 0) (ai b 0) ∧ conB a b = true := by simp [conT, conD, conB, h]
theorem conI_at {a b : List Spot} {i : Nat} (h0 : a.length ≠ 0) (hl : a.length = b.length) (hi : i < 8) (hn : ∀ j, j < i → fitB a b j = false) (h : fitB a b i = true) : conI a b = some i := by
  rw [conI, if_neg (by omega), List.find?_range_eq_some]
  exact ⟨h, by simpa using hi, fun j hj => by simp [hn j hj]⟩
theorem conI_no {a b : List Spot} (hn : ∀ j, j < 8 → fitB a b j = false) : conI a b = none := by
  unfold conI
  split
  · rfl
  · rw [List.find?_eq_none]
    intro x hx
    simp [hn x (List.mem_range.1 hx)]
theorem ret_move2 (a b : List Spot) (h0 : 0 < a.length) (hl : a.length = b.length) (hn : a.length ≤ 1000000) (B : Bool) (hB : B = true ↔ Fit a b) :
    Ret Tryd.prog XS 28 [.sl 2 (a.map cSpot), .sl 2 (b.map cSpot)] (.tup [.agg [int (if B = true then dW (ai a 0) (ai b 0) else ⟨0, 0⟩ : Spot).x, int (if B = true then dW (ai a 0) (ai b 0) else ⟨0, 0⟩ : Spot).y], boo B]) := by
  refine seam_move_W a b _ B (fun v => 0 ≤ v ∧ v ≤ a.length ∧ ∀ k : Nat, (k : Int) < v → mvW (dW (ai a 0) (ai b 0)) (ai a (k : Int)) = ai b (k : Int)) (fun v => a.length - v.toNat) ⟨⟨by omega, by omega⟩, ⟨by omega, by omega⟩, by omega, by omega, fun k hk => by omega⟩ ?_
  rintro v ⟨v0, v1, hk⟩
  obtain ⟨i, rfl⟩ : ∃ i : Nat, v = i := ⟨v.toNat, by omega⟩
  refine ⟨fun hlt => ?_, fun hge => ?_⟩
  · have no : mvW (dW (ai a 0) (ai b 0)) (ai a (i : Int)) ≠ ai b (i : Int) → (if B = true then dW (ai a 0) (ai b 0) else ⟨0, 0⟩ : Spot) = ⟨0, 0⟩ ∧ B = false := fun hne => by
      have : ¬ B = true := fun hB' => hne (hB.1 hB' i (by omega))
      exact ⟨if_neg this, by simpa using this⟩
    refine ⟨⟨by omega, by omega⟩, ⟨by omega, by omega⟩, fun hx => ⟨fun hy => ⟨⟨by omega, by omega⟩, ⟨by omega, by omega, fun k hkv => ?_⟩, by dsimp only; omega⟩, fun hy => no fun e => hy (by rw [← e]; rfl)⟩, fun hx => no fun e => hx (by rw [← e]; rfl)⟩
    by_cases hki : k = i
    · subst hki
      show (⟨_, _⟩ : Spot) = _
      generalize hq : ai b (k : Int) = q at hx hy
      cases q
      simp only [Spot.mk.injEq]
      exact ⟨hx, hy⟩
    · exact hk k (by omega)
  · have : B = true := hB.2 fun k hkl => hk k (by omega)
    rw [if_pos this]
    exact ⟨rfl, this⟩
theorem tt_quarter {i : Nat} (h : i < 8) : InR ((i : Int).tmod 4) := by
  rw [Int.tmod_eq_emod_of_nonneg (by omega)]; exact ⟨by omega, by omega⟩
open Classical in
theorem ret_congruent (a b : List Spot) (hn : a.length ≤ 1000000) : Ret Tryd.prog XS 13 [.sl 2 (a.map cSpot), .sl 2 (b.map cSpot)] (.tup [.agg [boo (conT a b).flip, int (conT a b).quarter], .agg [int (conD a b).x, int (conD a b).y], boo (conB a b)]) := by
  have none_ : conI a b = none → conT a b = (⟨false, 0⟩ : Turn) ∧ conD a b = (⟨0, 0⟩ : Spot) ∧ conB a b = false := con_none
  refine seam_Congruent_W a b _ _ _ (fun v => 0 ≤ v ∧ v ≤ 8 ∧ a.length ≠ 0 ∧ a.length = b.length ∧ ∀ j : Nat, (j : Int) < v → fitB a b j = false) (fun v => 8 - v.toNat)
    (fun i v w => 0 ≤ i ∧ i < 8 ∧ a.length ≠ 0 ∧ a.length = b.length ∧ (∀ j : Nat, (j : Int) < i → fitB a b j = false) ∧ 0 ≤ v ∧ v ≤ a.length ∧ w.length = a.length ∧ ∀ j : Nat, (h : j < a.length) → (j : Int) < v → w[j]? = some (app (tt i) a[j])) (fun i v w => a.length - v.toNat)
    ⟨fun h => none_ (if_pos (.inl (by omega))), fun h => ⟨fun h2 => ⟨by omega, by omega, by omega, by omega, fun j hj => by omega⟩, fun h2 => none_ (if_pos (.inr (by omega)))⟩⟩ ?_ ?_
  · rintro v ⟨v0, v1, h0, hl, hj⟩
    obtain ⟨i, rfl⟩ : ∃ i : Nat, v = i := ⟨v.toNat, by omega⟩
    refine ⟨fun hlt => ⟨by omega, by omega, by omega, by omega, by omega, h0, hl, hj, by omega, by omega, by simp, fun j _ hjv => by omega⟩, fun hge => none_ (conI_no fun j hj8 => hj j (by omega))⟩
  · rintro i v w ⟨i0, i8, h0, hl, hj, v0, v1, hw, hk⟩
    obtain ⟨n, rfl⟩ : ∃ n : Nat, i = n := ⟨i.toNat, by omega⟩
    obtain ⟨k, rfl⟩ : ∃ k : Nat, v = k := ⟨v.toNat, by omega⟩
    refine ⟨fun hlt => ?_, fun hge => ?_⟩
    · have hkl : k < a.length := by omega
      rw [ai_get rfl hkl]
      exact ⟨⟨by omega, by omega⟩, _, ret_apply (tt n) a[k] (tt_quarter (by omega)), ⟨by omega, by omega⟩, ⟨by omega, by omega⟩, ⟨i0, i8, h0, hl, hj, by omega, by omega, by simpa using hw, fun j hjl hjv => set_at (by omega) (fun e => by subst e; rfl) (fun e => hk j hjl (by omega))⟩, by dsimp only; omega⟩
    · have ew : w = a.map (app (tt n)) := by
        refine List.ext_getElem? fun j => ?_
        by_cases hjl : j < a.length
        · rw [hk j hjl (by omega)]; simp [hjl]
        · rw [List.getElem?_eq_none (by omega), List.getElem?_eq_none (by simp; omega)]
      subst ew
      refine ⟨_, _, ret_move2 (a.map (app (tt n))) b (by simp; omega) (by simpa using hl) (by simpa using hn) (fitB a b n) (by simp [fitB]), fun hf => ?_, fun hf => ?_⟩
      · have := con_some (conI_at h0 hl (by omega) (fun j hjn => hj j (by omega)) hf)
        rw [if_pos hf]
        exact ⟨this.1, this.2.1, this.2.2⟩
      · refine ⟨⟨by omega, by omega⟩, ⟨by omega, by omega, h0, hl, fun j hjv => ?_⟩, by dsimp only; omega⟩
        by_cases hjn : j = n
        · subst hjn; exact hf
        · exact hj j (by omega)
/-- One more quarter. -/
def rot (s : Spot) : Spot := ⟨ng s.y, s.x⟩
end Go.Ab
