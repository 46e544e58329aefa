/- The abstract interpreter: operators and what else makes no memory. -/
import Derived.Test.YtchibfkcphbmjaaAb6
set_option linter.unusedVariables false
set_option linter.unusedSimpArgs false
set_option linter.unusedSectionVars false

namespace Go.Ab
open Go.RowKit (Below)

theorem binI_sound {P : Program} {op : BinOp} {k : IntKind} {a b : Int} {v : Value} (h : binI op k a b = some v) (h1 : op ≠ .shl) (h2 : op ≠ .shr) (t : TypeId) (w : World) :
    (binOp op t (.int k a) (.int k b)).run P w = .ok v w := by
  cases op <;> simp only [binI] at h <;> first | (exfalso; simp at h; done) | (exfalso; exact h1 rfl) | (exfalso; exact h2 rfl) | skip
  all_goals first
    | (obtain rfl := Option.some.inj h; simp [binOp, Op.intArith, Op.intBits, Op.intCmp]; done)
    | (split at h
       · exact absurd h (by simp)
       · rename_i hb
         obtain rfl := Option.some.inj h
         simp [binOp, Op.intDiv, hb])

theorem binS_sound {P : Program} {op : BinOp} {a b : ByteArray} {v : Value} (h : binS op a b = some v) (t : TypeId) (w : World) :
    (binOp op t (.string a) (.string b)).run P w = .ok v w := by
  cases op <;> simp only [binS] at h <;> first | (exfalso; simp at h; done) | skip
  all_goals first
    | (obtain rfl := Option.some.inj h; simp [binOp, Op.stringOp]; done)
    | (split at h
       · rename_i hb
         obtain rfl := Option.some.inj h
         have hb' : ¬ (((a.size + b.size : Nat) : Int) > IntKind.i64.max) := by omega
         simp only [binOp, Op.stringOp, if_neg hb']
         rfl
       · exact absurd h (by simp))

theorem guard_other {P : Program} {op : BinOp} {t : TypeId} {ox oy : Operand} {x y : Value} (w : World) (h1 : x ≠ .nilIface) (h2 : ∀ c, x ≠ .agg c) : (eqGuard op t ox oy x y).run P w = .ok () w := by
  cases op <;> simp only [eqGuard] <;> first | rfl | skip
  all_goals cases x <;> first | rfl | (exact absurd rfl h1) | (exact absurd rfl (h2 _)) | skip

theorem run_equal_bool {P : Program} {t : TypeId} (hu : P.underlying t = some .bool) (a b : Bool) (w : World) : (Op.equal t (.bool a) (.bool b)).run P w = .ok (a == b) w := by
  have h : ∀ d, (Op.equalIn (d + 1) t (.bool a) (.bool b)).run P w = .ok (a == b) w := fun d => by simp [Op.equalIn, run_underlying hu]
  exact h 9999

theorem bin_sound {E : Env} {P : Program} {op : BinOp} {t : TypeId} {u v r : AV} {x y : Value} (h : bin P op t u v = some r) (hx : Rep E u x) (hy : Rep E v y) (ox oy : Operand) (w : World) :
    ∃ z, (do eqGuard op t ox oy x y; binOp op t x y).run P w = .ok z w ∧ Rep E r z := by
  unfold bin at h
  split at h
  · rename_i k a k' b
    obtain rfl := hx.sc_inv
    obtain rfl := hy.sc_inv
    have hg : (eqGuard op t ox oy (.int k a) (.int k' b)).run P w = .ok () w := guard_other w (by simp) (by simp)
    simp only [Sem.run_bind, hg, Result.andThen_ok]
    split at h
    · split at h
      · exact absurd h (by simp)
      · rename_i hb
        obtain rfl := Option.some.inj h
        exact ⟨_, by simp [binOp, Op.shift, hb], .pure (.sc _)⟩
    · split at h
      · exact absurd h (by simp)
      · rename_i hb
        obtain rfl := Option.some.inj h
        exact ⟨_, by simp [binOp, Op.shift, hb], .pure (.sc _)⟩
    · rename_i h1 h2
      split at h
      · rename_i hk
        subst hk
        cases hb : binI op k a b with
        | none => simp [hb] at h
        | some z =>
          simp only [hb, Option.map_some, Option.some.injEq] at h
          subst h
          exact ⟨z, binI_sound hb (by rintro rfl; simp at h1) (by rintro rfl; simp at h2) t w, .pure (.sc _)⟩
      · exact absurd h (by simp)
  · rename_i a b
    obtain rfl := hx.sc_inv
    obtain rfl := hy.sc_inv
    have hg : (eqGuard op t ox oy (.string a) (.string b)).run P w = .ok () w := guard_other w (by simp) (by simp)
    simp only [Sem.run_bind, hg, Result.andThen_ok]
    cases hb : binS op a b with
    | none => simp [hb] at h
    | some z =>
      simp only [hb, Option.map_some, Option.some.injEq] at h
      subst h
      exact ⟨z, binS_sound hb t w, .pure (.sc _)⟩
  · rename_i a b
    obtain rfl := hx.sc_inv
    obtain rfl := hy.sc_inv
    have hg : (eqGuard op t ox oy (.bool a) (.bool b)).run P w = .ok () w := guard_other w (by simp) (by simp)
    simp only [Sem.run_bind, hg, Result.andThen_ok]
    split at h
    · rename_i hu
      obtain rfl := Option.some.inj h
      exact ⟨_, by simp [binOp, run_equal_bool hu], .pure (.sc _)⟩
    · rename_i hu
      obtain rfl := Option.some.inj h
      exact ⟨_, by simp [binOp, run_equal_bool hu], .pure (.sc _)⟩
    · exact absurd h (by simp)
  · rename_i xs ys
    split at h
    · rename_i ks hks
      unfold eqKinds at hks
      split at hks
      · rename_i hgt
        obtain ⟨cx, rfl, _, hrx⟩ := hx.agg_inv
        obtain ⟨cy, rfl, _, hry⟩ := hy.agg_inv
        have hg : (eqGuard op t ox oy (.agg cx.toArray) (.agg cy.toArray)).run P w = .ok () w := run_eqGuard_agg (P := P) w op t ox oy _ _ hgt.1
        simp only [Sem.run_bind, hg, Result.andThen_ok]
        obtain ⟨⟨g, hz, hone⟩, hrec⟩ := flat_eq hks
        have key : ∀ q, eqCells ks xs ys = some q → (Op.equal t (.agg cx.toArray) (.agg cy.toArray)).run P w = .ok q w := by
          intro q hq
          have hv := eqCells_vals hq hrx hry
          obtain rfl : g = true := by rw [hz] at hgt; simpa using hgt.2
          exact hrec hz hv 9994 w
        split at h
        · cases hq : eqCells ks xs ys with
          | none => simp [hq] at h
          | some q =>
            simp only [hq, Option.map_some, Option.some.injEq] at h
            subst h
            exact ⟨.bool q, by simp [binOp, key q hq], .pure (.sc _)⟩
        · cases hq : eqCells ks xs ys with
          | none => simp [hq] at h
          | some q =>
            simp only [hq, Option.map_some, Option.some.injEq] at h
            subst h
            exact ⟨.bool (!q), by simp [binOp, key q hq], .pure (.sc _)⟩
        · exact absurd h (by simp)
      · exact absurd hks (by simp)
    · exact absurd h (by simp)
  · exact absurd h (by simp)

theorem un_sound {E : Env} {P : Program} {op : UnOp} {u r : AV} {x : Value} (h : un op u = some r) (hx : Rep E u x) (w : World) : ∃ z, (Op.unary op x).run P w = .ok z w ∧ Rep E r z := by
  unfold un at h
  split at h
  · obtain rfl := Option.some.inj h
    obtain rfl := hx.sc_inv
    exact ⟨_, by simp [Op.unary, Op.intArith], .pure (.sc _)⟩
  · obtain rfl := Option.some.inj h
    obtain rfl := hx.sc_inv
    exact ⟨_, by simp [Op.unary], .pure (.sc _)⟩
  · obtain rfl := Option.some.inj h
    obtain rfl := hx.sc_inv
    exact ⟨_, by simp [Op.unary, Op.intBits], .pure (.sc _)⟩
  · exact absurd h (by simp)
end Go.Ab
