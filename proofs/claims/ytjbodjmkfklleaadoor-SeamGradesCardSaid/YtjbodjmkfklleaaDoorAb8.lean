/- The abstract interpreter: operators. -/
import Derived.Test.YtjbodjmkfklleaaDoorAb5
import Derived.Laws.StructEq
set_option linter.unusedVariables false
set_option linter.unusedSimpArgs false
set_option linter.unusedSectionVars false

section
namespace Go.Ab
open Go.RowKit (Below)

/-- What cells say, as the machine has them. -/
def eqVals : List Nat → List Value → List Value → Option Bool
  | [], [], [] => some true
  | k :: ks, a :: r, b :: r' =>
    match eqKind k a b, eqVals ks r r' with
    | some p, some q => some (p && q)
    | _, _ => none
  | _, _, _ => none

theorem eqCells_inv {k : Nat} {ks : List Nat} {xs ys : List AV} {q : Bool} (h : eqCells (k :: ks) xs ys = some q) :
    ∃ a r b r' p q', xs = .sc a :: r ∧ ys = .sc b :: r' ∧ eqKind k a b = some p ∧ eqCells ks r r' = some q' ∧ q = (p && q') := by
  rcases xs with _ | ⟨x, r⟩
  · simp only [eqCells] at h; exact absurd h (by simp)
  rcases ys with _ | ⟨y, r'⟩
  · cases x <;> (simp only [eqCells] at h; exact absurd h (by simp))
  cases x <;> first | (exfalso; simp [eqCells] at h; done) | skip
  cases y <;> first | (exfalso; simp [eqCells] at h; done) | skip
  rename_i a b
  unfold eqCells at h
  split at h
  · rename_i p q' h1 h2
    exact ⟨a, r, b, r', p, q', rfl, rfl, h1, h2, (Option.some.inj h).symm⟩
  · exact absurd h (by simp)

theorem eqCells_vals {E : Env} : ∀ {ks : List Nat} {xs ys : List AV} {cx cy : List Value} {q : Bool}, eqCells ks xs ys = some q → Reps E xs cx → Reps E ys cy → eqVals ks cx cy = some q := by
  intro ks
  induction ks with
  | nil =>
    intro xs ys cx cy q h hx hy
    rcases xs with _ | ⟨x, r⟩ <;> rcases ys with _ | ⟨y, r'⟩ <;> first | (exfalso; simp [eqCells] at h; done) | skip
    obtain rfl : cx = [] := by simpa using hx.1
    obtain rfl : cy = [] := by simpa using hy.1
    exact h
  | cons k ks ih =>
    intro xs ys cx cy q h hx hy
    obtain ⟨a, r, b, r', p, q', rfl, rfl, h1, h2, rfl⟩ := eqCells_inv h
    cases cx with
    | nil => simp [Reps] at hx
    | cons u cx =>
      cases cy with
      | nil => simp [Reps] at hy
      | cons v cy =>
        obtain rfl : u = a := (hx.2 0 _ _ rfl rfl).sc_inv
        obtain rfl : v = b := (hy.2 0 _ _ rfl rfl).sc_inv
        have hi := ih h2 (drop_reps hx 1) (drop_reps hy 1)
        simp only [List.drop_succ_cons, List.drop_zero] at hi
        simp only [eqVals, h1, hi]

theorem eqVals_len : ∀ {ks : List Nat} {cx cy : List Value} {q : Bool}, eqVals ks cx cy = some q → cx.length = ks.length ∧ cy.length = ks.length
  | [], [], [], _, _ => ⟨rfl, rfl⟩
  | k :: ks, a :: r, b :: r', q, h => by
    unfold eqVals at h
    split at h
    · rename_i h1 h2
      have := eqVals_len h2
      simp [this.1, this.2]
    · exact absurd h (by simp)
  | [], _ :: _, _, _, h => by simp [eqVals] at h
  | [], [], _ :: _, _, h => by simp [eqVals] at h
  | _ :: _, [], _, _, h => by simp [eqVals] at h
  | _ :: _, _ :: _, [], _, h => by simp [eqVals] at h

theorem eqVals_append : ∀ {ks ls : List Nat} {cx cy : List Value} {q : Bool}, eqVals (ks ++ ls) cx cy = some q →
    ∃ p r, eqVals ks (cx.take ks.length) (cy.take ks.length) = some p ∧ eqVals ls (cx.drop ks.length) (cy.drop ks.length) = some r ∧ q = (p && r)
  | [], ls, cx, cy, q, h => ⟨true, q, by simp [eqVals], by simpa using h, by simp⟩
  | k :: ks, ls, [], cy, q, h => by simp [eqVals] at h
  | k :: ks, ls, a :: r, [], q, h => by simp [eqVals] at h
  | k :: ks, ls, a :: r, b :: r', q, h => by
    simp only [List.cons_append, eqVals] at h
    split at h
    · rename_i p q' h1 h2
      obtain rfl := Option.some.inj h
      obtain ⟨u, v, hu, hv, rfl⟩ := eqVals_append h2
      exact ⟨p && u, v, by simp [eqVals, h1, hu], by simpa using hv, by rw [Bool.and_assoc]⟩
    · exact absurd h (by simp)

/-- A value of a type of n cells, out of its cells. -/
def valOf (g : Bool) (cs : List Value) : Value := if g then .agg cs.toArray else cs.headD undef

theorem run_part {P : Program} {t : TypeId} {g : Bool} {n : Nat} (hz : tsz P t = some (g, n)) {cs : List Value} {o : Nat} (ho : o + n ≤ cs.length) (h1 : g = false → 0 < n) (w : World) :
    (Go.part t cs.toArray o).run P w = .ok (valOf g ((cs.drop o).take n)) w := by
  unfold Go.part
  simp only [Sem.run_bind, run_isAgg_tsz hz, Result.andThen_ok]
  cases g with
  | true =>
    simp only [if_true, Sem.run_bind, run_sizeOf_tsz hz, Result.andThen_ok, Sem.run_pure, valOf]
    congr 2
    apply Array.ext'
    simp
  | false =>
    have := h1 rfl
    have hlt : o < cs.length := by omega
    have e : ((cs.drop o).take n).headD undef = cs[o] := by
      rw [List.drop_eq_getElem_cons hlt]
      obtain ⟨m, rfl⟩ : ∃ m, n = m + 1 := ⟨n - 1, by omega⟩
      rfl
    simp only [Bool.false_eq_true, if_false, valOf, List.getElem?_toArray, List.getElem?_eq_getElem hlt, Sem.run_pure, e]

theorem flat_eq {P : Program} : ∀ {d : Nat} {t : TypeId} {ks : List Nat}, flatKinds P d t = some ks → (∃ g, tsz P t = some (g, ks.length) ∧ (g = false → ks.length = 1)) ∧
    ∀ {g : Bool} {n : Nat} {cx cy : List Value} {q : Bool}, tsz P t = some (g, n) → eqVals ks cx cy = some q → ∀ (m : Nat) (w : World), (Op.equalIn (d + m) t (valOf g cx) (valOf g cy)).run P w = .ok q w := by
  intro d
  induction d with
  | zero => intro t ks h; exact absurd h (by simp [flatKinds])
  | succ d ih =>
    intro t ks h
    unfold flatKinds at h
    have one : ∀ {k : Nat} {cx cy : List Value} {q : Bool}, eqVals [k] cx cy = some q → ∃ a b, cx = [a] ∧ cy = [b] ∧ eqKind k a b = some q := by
      intro k cx cy q hq
      obtain ⟨h1, h2⟩ := eqVals_len hq
      obtain ⟨a, rfl⟩ : ∃ a, cx = [a] := List.length_eq_one_iff.1 h1
      obtain ⟨b, rfl⟩ : ∃ a, cy = [a] := List.length_eq_one_iff.1 h2
      simp only [eqVals] at hq
      cases hk : eqKind k a b with
      | none => simp [hk] at hq
      | some p => simp [hk] at hq; exact ⟨a, b, rfl, rfl, by rw [hk, hq]⟩
    split at h
    · rename_i hu
      split at h
      · rename_i hz
        obtain rfl := Option.some.inj h
        refine ⟨⟨false, hz, fun _ => rfl⟩, fun {g n cx cy q} hz' hq m w => ?_⟩
        obtain ⟨rfl, rfl⟩ : false = g ∧ 1 = n := by rw [hz] at hz'; simpa using hz'
        obtain ⟨a, b, rfl, rfl, hk⟩ := one hq
        cases a <;> cases b <;> simp [eqKind] at hk
        subst hk
        simp [valOf, Nat.add_right_comm d 1 m, Op.equalIn, run_underlying hu]
      · exact absurd h (by simp)
    · rename_i k0 hu
      split at h
      · rename_i hz
        obtain rfl := Option.some.inj h
        refine ⟨⟨false, hz, fun _ => rfl⟩, fun {g n cx cy q} hz' hq m w => ?_⟩
        obtain ⟨rfl, rfl⟩ : false = g ∧ 1 = n := by rw [hz] at hz'; simpa using hz'
        obtain ⟨a, b, rfl, rfl, hk⟩ := one hq
        cases a <;> cases b <;> simp [eqKind] at hk
        obtain ⟨rfl, hk⟩ := hk
        simp [valOf, Nat.add_right_comm d 1 m, Op.equalIn, run_underlying hu, ← hk]
      · exact absurd h (by simp)
    · rename_i hu
      split at h
      · rename_i hz
        obtain rfl := Option.some.inj h
        refine ⟨⟨false, hz, fun _ => rfl⟩, fun {g n cx cy q} hz' hq m w => ?_⟩
        obtain ⟨rfl, rfl⟩ : false = g ∧ 1 = n := by rw [hz] at hz'; simpa using hz'
        obtain ⟨a, b, rfl, rfl, hk⟩ := one hq
        cases a <;> cases b <;> simp [eqKind] at hk
        subst hk
        simp [valOf, Nat.add_right_comm d 1 m, Op.equalIn, run_underlying hu]
      · exact absurd h (by simp)
    · rename_i fs hu
      split at h
      · rename_i hst
        split at h
        · rename_i ks' hf
          split at h
          · rename_i hz
            obtain rfl := Option.some.inj h
            refine ⟨⟨true, hz, fun h => by cases h⟩, fun {g n cx cy q} hz' hq m w => ?_⟩
            obtain ⟨rfl, rfl⟩ : true = g ∧ ks'.length = n := by rw [hz] at hz'; simpa using hz'
            have hfo : P.fieldsOf t = fs := by simp [Program.fieldsOf, hu]
            simp only [valOf, if_true]
            rw [Nat.add_right_comm d 1 m, run_equalIn_struct (P := P) w (d + m) t _ _ (by rw [hfo]; exact hu) hst, hfo]
            have key : ∀ (l : List Field) (o : Nat) (ls : List Nat) (q : Bool), flatFields P (flatKinds P d) l o = some ls → eqVals ls (cx.drop o) (cy.drop o) = some q →
                (Op.eqFields (d + m) cx.toArray cy.toArray l).run P w = .ok q w := by
              intro l
              induction l with
              | nil =>
                intro o ls q hl hq
                obtain rfl := Option.some.inj hl
                obtain ⟨h1, h2⟩ := eqVals_len hq
                rw [List.length_eq_zero_iff.1 h1, List.length_eq_zero_iff.1 h2] at hq
                simp [eqVals] at hq
                simp [Op.eqFields, hq]
              | cons f l ihl =>
                intro o ls q hl hq
                unfold flatFields at hl
                split at hl
                · rename_i hfo
                  obtain ⟨rfl, hname⟩ := hfo
                  split at hl
                  · rename_i kf g n hr hzf
                    split at hl
                    · rename_i hn
                      obtain ⟨rfl, hpos⟩ := hn
                      cases hrest : flatFields P (flatKinds P d) l (f.offset + kf.length) with
                      | none => simp [hrest] at hl
                      | some lr =>
                        simp only [hrest, Option.map_some, Option.some.injEq] at hl
                        subst hl
                        obtain ⟨p, r, hp, hr', rfl⟩ := eqVals_append hq
                        obtain ⟨⟨g', hg', hone⟩, hrec⟩ := ih hr
                        have hgg : g' = g := by rw [hzf] at hg'; simpa using hg'.symm
                        subst hgg
                        have hlens := eqVals_len hq
                        simp only [List.length_drop, List.length_append] at hlens
                        have hname' : f.name ≠ "_" := by simpa using hname
                        rw [Op.eqFields]
                        simp only [if_pos hname', Sem.run_bind]
                        rw [run_part (cs := cx) hzf (by omega) (fun _ => hpos)]
                        simp only [Result.andThen_ok]
                        rw [run_part (cs := cy) hzf (by omega) (fun _ => hpos)]
                        simp only [Result.andThen_ok, hrec hzf hp m w]
                        have hl2 := ihl (f.offset + kf.length) lr r hrest (by simpa [List.drop_drop] using hr')
                        cases p
                        · simp
                        · simpa using hl2
                    · exact absurd hl (by simp)
                  · exact absurd hl (by simp)
                · exact absurd hl (by simp)
            exact key fs.toList 0 ks' q hf (by simpa using hq)
          · exact absurd h (by simp)
        · exact absurd h (by simp)
      · exact absurd h (by simp)
    · exact absurd h (by simp)
end Go.Ab
end

section
namespace Go.Ab
open Go.RowKit (Below)

theorem binI_sound {P : Program} {op : BinOp} {k : IntKind} {a b : Int} {v : Value} (h : binI op k a b = some v) (h1 : op ≠ .shl) (h2 : op ≠ .shr) (t : TypeId) (w : World) :
    (binOp op t (.int k a) (.int k b)).run P w = .ok v w := by
  cases op <;> simp only [binI] at h <;> first | (exfalso; simp at h; done) | (exfalso; exact h1 rfl) | (exfalso; exact h2 rfl) | skip
  all_goals first
    | (obtain rfl := Option.some.inj h; simp [binOp, Op.intArith, Op.intBits, Op.intCmp]; done)
    | (split at h
       · exact absurd h (by simp)
       · rename_i hb
         obtain rfl := Option.some.inj h
         simp [binOp, Op.intDiv, hb])

theorem binS_sound {P : Program} {op : BinOp} {a b : ByteArray} {v : Value} (h : binS op a b = some v) (t : TypeId) (w : World) :
    (binOp op t (.string a) (.string b)).run P w = .ok v w := by
  cases op <;> simp only [binS] at h <;> first | (exfalso; simp at h; done) | skip
  all_goals first
    | (obtain rfl := Option.some.inj h; simp [binOp, Op.stringOp]; done)
    | (split at h
       · rename_i hb
         obtain rfl := Option.some.inj h
         have hb' : ¬ (((a.size + b.size : Nat) : Int) > IntKind.i64.max) := by omega
         simp only [binOp, Op.stringOp, if_neg hb']
         rfl
       · exact absurd h (by simp))

theorem guard_other {P : Program} {op : BinOp} {t : TypeId} {ox oy : Operand} {x y : Value} (w : World) (h1 : x ≠ .nilIface) (h2 : ∀ c, x ≠ .agg c) : (eqGuard op t ox oy x y).run P w = .ok () w := by
  cases op <;> simp only [eqGuard] <;> first | rfl | skip
  all_goals cases x <;> first | rfl | (exact absurd rfl h1) | (exact absurd rfl (h2 _)) | skip

theorem run_equal_bool {P : Program} {t : TypeId} (hu : P.underlying t = some .bool) (a b : Bool) (w : World) : (Op.equal t (.bool a) (.bool b)).run P w = .ok (a == b) w := by
  have h : ∀ d, (Op.equalIn (d + 1) t (.bool a) (.bool b)).run P w = .ok (a == b) w := fun d => by simp [Op.equalIn, run_underlying hu]
  exact h 9999

theorem bin_sound {E : Env} {P : Program} {op : BinOp} {t : TypeId} {u v r : AV} {x y : Value} (h : bin P op t u v = some r) (hx : Rep E u x) (hy : Rep E v y) (ox oy : Operand) (w : World) :
    ∃ z, (do eqGuard op t ox oy x y; binOp op t x y).run P w = .ok z w ∧ Rep E r z := by
  unfold bin at h
  split at h
  · rename_i k a k' b
    obtain rfl := hx.sc_inv
    obtain rfl := hy.sc_inv
    have hg : (eqGuard op t ox oy (.int k a) (.int k' b)).run P w = .ok () w := guard_other w (by simp) (by simp)
    simp only [Sem.run_bind, hg, Result.andThen_ok]
    split at h
    · split at h
      · exact absurd h (by simp)
      · rename_i hb
        obtain rfl := Option.some.inj h
        exact ⟨_, by simp [binOp, Op.shift, hb], .pure (.sc _)⟩
    · split at h
      · exact absurd h (by simp)
      · rename_i hb
        obtain rfl := Option.some.inj h
        exact ⟨_, by simp [binOp, Op.shift, hb], .pure (.sc _)⟩
    · rename_i h1 h2
      split at h
      · rename_i hk
        subst hk
        cases hb : binI op k a b with
        | none => simp [hb] at h
        | some z =>
          simp only [hb, Option.map_some, Option.some.injEq] at h
          subst h
          exact ⟨z, binI_sound hb (by rintro rfl; simp at h1) (by rintro rfl; simp at h2) t w, .pure (.sc _)⟩
      · exact absurd h (by simp)
  · rename_i a b
    obtain rfl := hx.sc_inv
    obtain rfl := hy.sc_inv
    have hg : (eqGuard op t ox oy (.string a) (.string b)).run P w = .ok () w := guard_other w (by simp) (by simp)
    simp only [Sem.run_bind, hg, Result.andThen_ok]
    cases hb : binS op a b with
    | none => simp [hb] at h
    | some z =>
      simp only [hb, Option.map_some, Option.some.injEq] at h
      subst h
      exact ⟨z, binS_sound hb t w, .pure (.sc _)⟩
  · rename_i a b
    obtain rfl := hx.sc_inv
    obtain rfl := hy.sc_inv
    have hg : (eqGuard op t ox oy (.bool a) (.bool b)).run P w = .ok () w := guard_other w (by simp) (by simp)
    simp only [Sem.run_bind, hg, Result.andThen_ok]
    split at h
    · rename_i hu
      obtain rfl := Option.some.inj h
      exact ⟨_, by simp [binOp, run_equal_bool hu], .pure (.sc _)⟩
    · rename_i hu
      obtain rfl := Option.some.inj h
      exact ⟨_, by simp [binOp, run_equal_bool hu], .pure (.sc _)⟩
    · exact absurd h (by simp)
  · rename_i xs ys
    split at h
    · rename_i ks hks
      unfold eqKinds at hks
      split at hks
      · rename_i hgt
        obtain ⟨cx, rfl, _, hrx⟩ := hx.agg_inv
        obtain ⟨cy, rfl, _, hry⟩ := hy.agg_inv
        have hg : (eqGuard op t ox oy (.agg cx.toArray) (.agg cy.toArray)).run P w = .ok () w := run_eqGuard_agg (P := P) w op t ox oy _ _ hgt.1
        simp only [Sem.run_bind, hg, Result.andThen_ok]
        obtain ⟨⟨g, hz, hone⟩, hrec⟩ := flat_eq hks
        have key : ∀ q, eqCells ks xs ys = some q → (Op.equal t (.agg cx.toArray) (.agg cy.toArray)).run P w = .ok q w := by
          intro q hq
          have hv := eqCells_vals hq hrx hry
          obtain rfl : g = true := by rw [hz] at hgt; simpa using hgt.2
          exact hrec hz hv 9994 w
        split at h
        · cases hq : eqCells ks xs ys with
          | none => simp [hq] at h
          | some q =>
            simp only [hq, Option.map_some, Option.some.injEq] at h
            subst h
            exact ⟨.bool q, by simp [binOp, key q hq], .pure (.sc _)⟩
        · cases hq : eqCells ks xs ys with
          | none => simp [hq] at h
          | some q =>
            simp only [hq, Option.map_some, Option.some.injEq] at h
            subst h
            exact ⟨.bool (!q), by simp [binOp, key q hq], .pure (.sc _)⟩
        · exact absurd h (by simp)
      · exact absurd hks (by simp)
    · exact absurd h (by simp)
  · exact absurd h (by simp)

theorem un_sound {E : Env} {P : Program} {op : UnOp} {u r : AV} {x : Value} (h : un op u = some r) (hx : Rep E u x) (w : World) : ∃ z, (Op.unary op x).run P w = .ok z w ∧ Rep E r z := by
  unfold un at h
  split at h
  · obtain rfl := Option.some.inj h
    obtain rfl := hx.sc_inv
    exact ⟨_, by simp [Op.unary, Op.intArith], .pure (.sc _)⟩
  · obtain rfl := Option.some.inj h
    obtain rfl := hx.sc_inv
    exact ⟨_, by simp [Op.unary], .pure (.sc _)⟩
  · obtain rfl := Option.some.inj h
    obtain rfl := hx.sc_inv
    exact ⟨_, by simp [Op.unary, Op.intBits], .pure (.sc _)⟩
  · exact absurd h (by simp)
end Go.Ab
end

section
namespace Go.Ab
open Go.RowKit (Below)

theorem telem_inv {P : Program} {t e : TypeId} (h : telem P t = some e) : P.underlying t = some (.slice e) := by
  unfold telem at h
  split at h
  · rename_i hu; obtain rfl := Option.some.inj h; exact hu
  · exact absurd h (by simp)
theorem tstr_inv {P : Program} {t : TypeId} (h : tstr P t = true) : P.underlying t = some .string := by
  unfold tstr at h
  split at h
  · rename_i hu; exact hu
  · exact absurd h (by simp)
theorem tint_inv {P : Program} {t : TypeId} {k : IntKind} (h : tint P t = some k) : P.underlying t = some (.int k) := by
  unfold tint at h
  split at h
  · rename_i hu; obtain rfl := Option.some.inj h; exact hu
  · exact absurd h (by simp)

theorem tfloat_inv {P : Program} {t : TypeId} {k : FloatKind} (h : tfloat P t = some k) : P.underlying t = some (.float k) := by
  unfold tfloat at h
  split at h
  · rename_i k' hu; obtain rfl := Option.some.inj h; exact hu
  · exact absurd h (by simp)
theorem conv_sound {E : Env} {P : Program} {w0 : World} {okb : Nat → Prop} {s : AS} {t u : TypeId} {v : AV} {x : Value} {r : Res} (hF : Frm E w0 okb) (hM : MemRel E w0.heap.size s.mem)
    (hx : Rep E v x) (h : convE P s t u v = some r) : ∃ y, (convert t u x).run P E.w = .ok y E.w ∧ Stepped E w0 okb s.mem s.nx r y E := by
  unfold convE at h
  split at h
  · rename_i k n
    obtain rfl := hx.sc_inv
    split at h
    · rename_i k1 k2 h1 h2
      obtain rfl := Option.some.inj h
      exact ⟨_, by simp [convert, run_underlying (tint_inv h1), run_underlying (tint_inv h2), Conv.intToInt], .same hF hM (.pure (.sc _))⟩
    · rename_i k1 k2 h1 h2 h3
      obtain rfl := Option.some.inj h
      exact ⟨_, by simp [convert, run_underlying (tint_inv h1), run_underlying (tfloat_inv h3), Conv.intToFloat], .same hF hM (.pure (.sc _))⟩
    · exact absurd h (by simp)
  · rename_i k b
    obtain rfl := hx.sc_inv
    split at h
    · rename_i k1 k2 n h1 h2 h3
      split at h
      · rename_i hc
        obtain rfl := Option.some.inj h
        exact ⟨_, by simp [convert, run_underlying (tfloat_inv h1), run_underlying (tint_inv h2), Conv.floatToInt, h3, hc], .same hF hM (.pure (.sc _))⟩
      · exact absurd h (by simp)
    · exact absurd h (by simp)
  · rename_i b
    obtain rfl := hx.sc_inv
    split at h
    · rename_i hc
      obtain rfl := Option.some.inj h
      exact ⟨_, by simp [convert, run_underlying (tstr_inv hc.1), run_underlying (tstr_inv hc.2)], .same hF hM (.pure (.sc _))⟩
    · exact absurd h (by simp)
  · exact absurd h (by simp)

theorem tfld_inv {P : Program} {t u : TypeId} {f o : Nat} (h : tfld P t f = some (o, u)) : ∃ fs fld, P.underlying t = some (.struct fs) ∧ fs[f]? = some fld ∧ fld.offset = o ∧ fld.type = u := by
  unfold tfld at h
  split at h
  · rename_i fs hu
    cases hf : fs[f]? with
    | none => simp [hf] at h
    | some fld => simp only [hf, Option.map_some, Option.some.injEq, Prod.mk.injEq] at h; exact ⟨fs, fld, hu, hf, h.1, h.2⟩
  · exact absurd h (by simp)

theorem fieldAddr_sound {E : Env} {P : Program} {w0 : World} {okb : Nat → Prop} {s : AS} {t : TypeId} {f : Nat} {v : AV} {x : Value} {r : Res} (hF : Frm E w0 okb) (hM : MemRel E w0.heap.size s.mem)
    (hx : Rep E v x) (h : fieldAddrE P s t v f = some r) : ∃ y, (Instr.fieldAt t x f).run P E.w = .ok y E.w ∧ Stepped E w0 okb s.mem s.nx r y E := by
  unfold fieldAddrE at h
  split at h
  · rename_i o u hf
    obtain ⟨fs, fld, hu, hfs, rfl, rfl⟩ := tfld_inv hf
    have go : ∀ (g : Bool) (n b p : Nat), tsz P fld.type = some (g, n) → 0 < n → (Instr.fieldAt t (.pointer (some ⟨b, p, none⟩)) f).run P E.w = .ok (.pointer (some ⟨b, p + fld.offset, none⟩)) E.w := by
      intro g n b p hz hn
      have hn' : ¬ (n = 0) := by omega
      simp [Instr.fieldAt, run_underlying hu, hfs, Instr.sureAddr, fieldPlace, run_sizeOf_tsz hz, hn', addr_add]
    split at h
    · rename_i g n id i j hz
      split at h
      · rename_i hn
        obtain rfl := Option.some.inj h
        obtain ⟨ha, b, o, z, hl, rfl⟩ := hx.ptr_inv
        refine ⟨_, go g n b _ hz hn, .same hF hM ?_⟩
        have := Rep.ptr (E := E) id i (j + fld.offset) b o z ha hl
        rwa [← Nat.add_assoc] at this
      · exact absurd h (by simp)
    · rename_i g n cs hz
      split at h
      · rename_i hn
        obtain rfl := Option.some.inj h
        obtain ⟨b, o, rfl, hk, hc⟩ := hx.ref_inv
        refine ⟨_, go g n b _ hz hn, .same hF hM ?_⟩
        obtain ⟨cv, hl, hq⟩ := listOf cs hc
        refine .pure (.ref _ b (o + fld.offset) (fun j => cv.getD (fld.offset + j) undef) hk ?_ ?_ ?_)
        all_goals
          intro j c hj
          rw [List.getElem?_drop] at hj
          obtain ⟨y, hy⟩ : ∃ y, cv[fld.offset + j]? = some y := ⟨_, List.getElem?_eq_getElem (by have := (List.getElem?_eq_some_iff.1 hj).1; omega)⟩
          obtain ⟨q1, q2, q3⟩ := hq _ _ _ hj hy
          simp only [List.getD_eq_getElem?_getD, hy, Option.getD_some]
          first | (rw [Nat.add_assoc]; exact q1) | exact q2 | exact q3
      · exact absurd h (by simp)
    · exact absurd h (by simp)
  · exact absurd h (by simp)

theorem part_run {E : Env} {P : Program} {t : TypeId} {z : Bool × Nat} {cs : List AV} {cv : List Value} {o : Nat} {v : AV} (hz : tsz P t = some z) (hp : part z (cs.drop o) = some v)
    (hr : Reps E cs cv) (h1 : ∀ v, v ∈ cv → v.oneCell' = true) (w : World) : ∃ y, (Go.part t cv.toArray o).run P w = .ok y w ∧ Rep E v y := by
  obtain ⟨g, n⟩ := z
  unfold Go.part
  simp only [Sem.run_bind, run_isAgg_tsz hz, Result.andThen_ok]
  cases g with
  | true =>
    simp only [part, if_true] at hp
    split at hp
    · rename_i hn
      obtain rfl := Option.some.inj hp
      have ht := take_reps (drop_reps hr o) n
      refine ⟨.agg ((cv.drop o).take n).toArray, ?_, .agg _ _ ht.1 (fun v hv => h1 v (List.mem_of_mem_drop (List.mem_of_mem_take hv))) ht.2⟩
      simp only [if_true, Sem.run_bind, run_sizeOf_tsz hz, Result.andThen_ok, Sem.run_pure]
      congr 2
      apply Array.ext'
      simp
    · exact absurd hp (by simp)
  | false =>
    simp only [part, Bool.false_eq_true, if_false] at hp
    have hp' : cs[o]? = some v := by rw [← hp, List.head?_drop]
    obtain ⟨y, hy⟩ : ∃ y, cv[o]? = some y := ⟨_, List.getElem?_eq_getElem (by have := (List.getElem?_eq_some_iff.1 hp').1; rw [hr.1]; exact this)⟩
    exact ⟨y, by simp [hy], hr.2 o v y hp' hy⟩

theorem field_sound {E : Env} {P : Program} {w0 : World} {okb : Nat → Prop} {s : AS} {t : TypeId} {f : Nat} {v : AV} {x : Value} {r : Res} (hF : Frm E w0 okb) (hM : MemRel E w0.heap.size s.mem)
    (hx : Rep E v x) (h : fieldE P s t v f = some r) : ∃ y, (Instr.field t x f).run P E.w = .ok y E.w ∧ Stepped E w0 okb s.mem s.nx r y E := by
  unfold fieldE at h
  split at h
  · rename_i o u cs hf
    obtain ⟨fs, fld, hu, hfs, rfl, rfl⟩ := tfld_inv hf
    split at h
    · rename_i z hz
      split at h
      · rename_i v hv
        obtain rfl := Option.some.inj h
        obtain ⟨cv, rfl, h1, hr⟩ := hx.agg_inv
        obtain ⟨y, hy, hR⟩ := part_run hz hv hr h1 E.w
        exact ⟨y, by simp [Instr.field, run_underlying hu, hfs, asAgg, hy], .same hF hM hR⟩
      · exact absurd h (by simp)
    · exact absurd h (by simp)
  · exact absurd h (by simp)


theorem elem_tsz {P : Program} {t : TypeId} {z : Bool × Nat} (h : (telem P t).bind (tsz P) = some z) : ∃ e, P.underlying t = some (.slice e) ∧ tsz P e = some z := by
  cases he : telem P t with
  | none => simp [he] at h
  | some e => exact ⟨e, telem_inv he, by simpa [he] using h⟩

theorem run_indexAt {P : Program} {t e : TypeId} {g : Bool} {n : Nat} (hu : P.underlying t = some (.slice e)) (hz : tsz P e = some (g, n)) {b o len cap : Nat} {k : IntKind} {i : Int} (h0 : 0 ≤ i) (h1 : i < len) (w : World) :
    (Instr.indexAt t (.slice (some ⟨b, o, none⟩) len cap) (.int k i)).run P w = .ok (.pointer (some ⟨b, o + i.toNat * n, none⟩)) w := by
  simp [Instr.indexAt, asIntOf, run_underlying hu, h0, h1, run_sizeOf_tsz hz, addr_add]

theorem row_loc {E : Env} {base id : Nat} {mem : List (Nat × Arr)} {sz : Nat} {xs : List (List AV)} {b o z : Nat} (hM : MemRel E base mem) (hg : get mem id = some (.row sz xs) ∨ get mem id = some (.frz sz xs))
    (hl : E.loc id = some (b, o, z)) : z = sz := by
  rcases hg with hg | hg
  · have hr := (hM.arr id _ hg).2
    simp only [ArrRel, hl] at hr
    obtain ⟨_, _, _, _, _, _, hz, _⟩ := hr
    exact hz
  · have hr := (hM.arr id _ hg).2
    simp only [ArrRel, hl] at hr
    obtain ⟨_, _, _, _, _, _, hz, _⟩ := hr
    exact hz

theorem indexSl_sound {E : Env} {P : Program} {w0 : World} {okb : Nat → Prop} {s : AS} {t : TypeId} {v u : AV} {x q : Value} {r : Res} (hF : Frm E w0 okb) (hM : MemRel E w0.heap.size s.mem)
    (hx : Rep E v x) (hq : Rep E u q) (h : indexSlE P s t v u = some r) : ∃ y, (Instr.indexAt t x q).run P E.w = .ok y E.w ∧ Stepped E w0 okb s.mem s.nx r y E := by
  unfold indexSlE at h
  split at h
  · rename_i k i g n hz
    obtain rfl := hq.sc_inv
    obtain ⟨e, hu, hz⟩ := elem_tsz hz
    split at h
    · rename_i sz xs
      split at h
      · rename_i hi
        obtain ⟨h0, rfl⟩ := hi
        split at h
        · rename_i cs hcs
          obtain rfl := Option.some.inj h
          have hlt := (List.getElem?_eq_some_iff.1 hcs).1
          rcases hx.sl_inv with ⟨rfl, _⟩ | ⟨b, o, cap, rfl, hk, hc, hsz, hcell⟩
          · simp at hcs
          · refine ⟨_, run_indexAt hu hz h0 (by omega) _, .same hF hM ?_⟩
            obtain ⟨cv, hl, hq⟩ := listOf cs (fun j c hj => hcell _ cs j c hcs hj)
            refine .pure (.ref _ b _ (fun j => cv.getD j undef) hk ?_ ?_ ?_)
            all_goals
              intro j c hj
              obtain ⟨y, hy⟩ : ∃ y, cv[j]? = some y := ⟨_, List.getElem?_eq_getElem (by have := (List.getElem?_eq_some_iff.1 hj).1; omega)⟩
              obtain ⟨q1, q2, q3⟩ := hq _ _ _ hj hy
              simp only [List.getD_eq_getElem?_getD, hy, Option.getD_some]
              first | exact q1 | exact q2 | exact q3
        · exact absurd h (by simp)
      · exact absurd h (by simp)
    · rename_i id off len
      have main : ∀ (sz : Nat) (xs : List (List AV)), get s.mem id = some (.row sz xs) ∨ get s.mem id = some (.frz sz xs) → 0 ≤ i ∧ i < len ∧ n = sz ∧ 0 < xs.length → ∀ rd, ∃ y, (Instr.indexAt t x (.int k i)).run P E.w = .ok y E.w ∧
          Stepped E w0 okb s.mem s.nx ⟨.ptr id (off + i.toNat) 0, [], s.nx, rd⟩ y E := by
        rintro sz xs hg ⟨h0, h1, rfl, hlen⟩ rd
        obtain ⟨ha, hcase⟩ := hx.own_inv
        rcases hcase with ⟨_, _, rfl, _⟩ | ⟨b, o, z, cap, hl, rfl, hc, _⟩
        · exfalso; omega
        · have hzz := row_loc hM hg hl
          subst hzz
          refine ⟨_, run_indexAt hu hz h0 h1 _, .same hF hM ?_⟩
          have := Rep.ptr (E := E) id (off + i.toNat) 0 b o z ha hl
          rwa [Nat.add_zero, Nat.add_mul, ← Nat.add_assoc] at this
      split at h
      · rename_i sz xs hg
        split at h
        · rename_i hi; obtain rfl := Option.some.inj h; exact main sz xs (.inl hg) hi _
        · exact absurd h (by simp)
      · rename_i sz xs hg
        split at h
        · rename_i hi; obtain rfl := Option.some.inj h; exact main sz xs (.inr hg) hi _
        · exact absurd h (by simp)
      · exact absurd h (by simp)
    · exact absurd h (by simp)
  · exact absurd h (by simp)

theorem tarr_inv {P : Program} {t : TypeId} {n : Nat} {e : TypeId} (h : tarr P t = some (n, e)) : P.underlying t = some (.array n e) := by
  unfold tarr at h
  split at h
  · rename_i n' e' hu
    obtain ⟨rfl, rfl⟩ : n' = n ∧ e' = e := by simpa using h
    exact hu
  · cases h
theorem run_indexArr {P : Program} {t e : TypeId} {len n : Nat} {g : Bool} (hu : P.underlying t = some (.array len e)) (hz : tsz P e = some (g, n)) {b o : Nat} {k : IntKind} {i : Int} (h0 : 0 ≤ i) (h1 : i < len) (w : World) :
    (Instr.indexAt t (.pointer (some ⟨b, o, none⟩)) (.int k i)).run P w = .ok (.pointer (some ⟨b, o + i.toNat * n, none⟩)) w := by
  simp [Instr.indexAt, Instr.sureAddr, asIntOf, run_underlying hu, h0, h1, run_sizeOf_tsz hz, addr_add]
theorem arrAddr_sound {E : Env} {P : Program} {w0 : World} {okb : Nat → Prop} {s : AS} {t e : TypeId} {n : Nat} {v u : AV} {x q : Value} {r : Res} (hF : Frm E w0 okb) (hM : MemRel E w0.heap.size s.mem)
    (hx : Rep E v x) (hq : Rep E u q) (hu : P.underlying t = some (.array n e)) (h : arrAddrE P s n e v u = some r) : ∃ y, (Instr.indexAt t x q).run P E.w = .ok y E.w ∧ Stepped E w0 okb s.mem s.nx r y E := by
  unfold arrAddrE at h
  split at h
  · rename_i g m id a j hz
    obtain rfl := hq.sc_inv
    split at h
    · rename_i hi
      obtain rfl := Option.some.inj h
      obtain ⟨ha, b, o, z, hl, rfl⟩ := hx.ptr_inv
      refine ⟨_, run_indexArr hu hz hi.1 hi.2 _, .same hF hM ?_⟩
      rw [Nat.add_assoc]
      exact Rep.ptr (E := E) id a _ b o z ha hl
    · cases h
  · rename_i i g m cs hz
    obtain rfl := hq.sc_inv
    split at h
    · rename_i hi
      obtain rfl := Option.some.inj h
      obtain ⟨b, o, rfl, hk, hc⟩ := hx.ref_inv
      refine ⟨_, run_indexArr hu hz hi.1 hi.2 _, .same hF hM ?_⟩
      obtain ⟨cv, hl, hq⟩ := listOf cs hc
      refine .pure (.ref _ b (o + (i.toNat * m)) (fun j => cv.getD ((i.toNat * m) + j) undef) hk ?_ ?_ ?_)
      all_goals
        intro j c hj
        rw [List.getElem?_drop] at hj
        obtain ⟨y, hy⟩ : ∃ y, cv[(i.toNat * m) + j]? = some y := ⟨_, List.getElem?_eq_getElem (by have := (List.getElem?_eq_some_iff.1 hj).1; omega)⟩
        obtain ⟨q1, q2, q3⟩ := hq _ _ _ hj hy
        simp only [List.getD_eq_getElem?_getD, hy, Option.getD_some]
        first | (rw [Nat.add_assoc]; exact q1) | exact q2 | exact q3
    · cases h
  · cases h
theorem indexAddr_sound {E : Env} {P : Program} {w0 : World} {okb : Nat → Prop} {s : AS} {t : TypeId} {v u : AV} {x q : Value} {r : Res} (hF : Frm E w0 okb) (hM : MemRel E w0.heap.size s.mem)
    (hx : Rep E v x) (hq : Rep E u q) (h : indexAddrE P s t v u = some r) : ∃ y, (Instr.indexAt t x q).run P E.w = .ok y E.w ∧ Stepped E w0 okb s.mem s.nx r y E := by
  unfold indexAddrE at h
  split at h
  · rename_i n e ht; exact arrAddr_sound hF hM hx hq (tarr_inv ht) h
  · exact indexSl_sound hF hM hx hq h

theorem index_sound {E : Env} {P : Program} {w0 : World} {okb : Nat → Prop} {s : AS} {t : TypeId} {v u : AV} {x q : Value} {r : Res} (hF : Frm E w0 okb) (hM : MemRel E w0.heap.size s.mem)
    (hx : Rep E v x) (hq : Rep E u q) (h : indexE P s t v u = some r) : ∃ y, (Instr.index t x q).run P E.w = .ok y E.w ∧ Stepped E w0 okb s.mem s.nx r y E := by
  unfold indexE at h
  split at h
  · rename_i b k i ht
    obtain rfl := hx.sc_inv
    obtain rfl := hq.sc_inv
    split at h
    · rename_i h0
      split at h
      · rename_i c hc
        obtain rfl := Option.some.inj h
        exact ⟨_, by simp [Instr.index, asIntOf, run_underlying (tstr_inv ht), h0, hc], .same hF hM (.pure (.sc _))⟩
      · exact absurd h (by simp)
    · exact absurd h (by simp)
  · exact absurd h (by simp)

theorem len_sound {E : Env} {P : Program} {w0 : World} {okb : Nat → Prop} {s : AS} {t : TypeId} {v : AV} {x : Value} {r : Res} (hF : Frm E w0 okb) (hM : MemRel E w0.heap.size s.mem)
    (hx : Rep E v x) (h : lenE P s t v = some r) (ty : TypeId) : ∃ y, (Builtin.len_ #[t] ty #[x]).run P E.w = .ok y E.w ∧ Stepped E w0 okb s.mem s.nx r y E := by
  have sl : ∀ (a : Option Addr) (n c : Nat), (telem P t).isSome = true → (Builtin.len_ #[t] ty #[.slice a n c]).run P E.w = .ok (goInt n) E.w := by
    intro a n c ht
    obtain ⟨e, he⟩ := Option.isSome_iff_exists.1 ht
    simp [Builtin.len_, run_underlying (telem_inv he)]
  unfold lenE at h
  split at h
  · obtain rfl := hx.sc_inv
    split at h
    · rename_i ht
      obtain rfl := Option.some.inj h
      exact ⟨_, by simp [Builtin.len_, run_underlying (tstr_inv ht)]; rfl, .same hF hM (.pure (.sc _))⟩
    · exact absurd h (by simp)
  · split at h
    · rename_i xs ht
      obtain rfl := Option.some.inj h
      rcases hx.sl_inv with ⟨rfl, rfl | ⟨a, cap, rfl⟩⟩ | ⟨b, o, cap, rfl, _⟩
      · exact ⟨_, sl _ _ _ ht, .same hF hM (.pure (.sc _))⟩
      · exact ⟨_, sl _ _ _ ht, .same hF hM (.pure (.sc _))⟩
      · exact ⟨_, sl _ _ _ ht, .same hF hM (.pure (.sc _))⟩
    · exact absurd h (by simp)
  · split at h
    · rename_i ht
      obtain rfl := Option.some.inj h
      obtain rfl := hx.nil_inv
      exact ⟨_, sl _ _ _ ht, .same hF hM (.pure (.sc _))⟩
    · exact absurd h (by simp)
  · split at h
    · rename_i id off n ht
      obtain rfl := Option.some.inj h
      rcases hx.own_inv.2 with ⟨_, _, rfl, rfl⟩ | ⟨b, o, z, cap, _, rfl, _⟩
      · exact ⟨_, sl _ _ _ ht, .same hF hM (.pure (.sc _))⟩
      · exact ⟨_, sl _ _ _ ht, .same hF hM (.pure (.sc _))⟩
    · exact absurd h (by simp)
  · exact absurd h (by simp)
end Go.Ab
end
