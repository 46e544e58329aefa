/- The abstract interpreter: what is read stays read. -/
import Derived.Test.YtchibfkcphbmjaaAb3
import Derived.Laws.CopyRow
import Derived.Laws.Cells
import Derived.Laws.Append
set_option linter.unusedVariables false
set_option linter.unusedSimpArgs false
set_option linter.unusedSectionVars false

namespace Go.Ab
open Go.RowKit (Below)

theorem cell_of_blk {w w' : World} {b o : Nat} (h : w'.heap[b]? = w.heap[b]?) : w'.cell? ⟨b, o, none⟩ = w.cell? ⟨b, o, none⟩ :=
  World.cell?_of_block (w := w) h

theorem RepP.mono {w w' : World} {ok ok' : Nat → Prop} (hok : ∀ b, ok b → ok' b) (hb : ∀ b, ok b → w'.heap[b]? = w.heap[b]?) {a : AV} {v : Value} (h : RepP w ok a v) : RepP w' ok' a v := by
  induction h with
  | jk v => exact .jk v
  | sc v => exact .sc v
  | nil => exact .nil
  | slNil sz => exact .slNil sz
  | slEmp sz a cap => exact .slEmp sz a cap
  | sl sz xs b o cap cv hk hc hz hr h1 hv ih => exact .sl sz xs b o cap cv (hok _ hk) hc hz (fun i cs j c hi hj => by rw [cell_of_blk (hb b hk)]; exact hr i cs j c hi hj) h1 ih
  | ref cs b o cv hk hr h1 hv ih => exact .ref cs b o cv (hok _ hk) (fun j c hj => by rw [cell_of_blk (hb b hk)]; exact hr j c hj) h1 ih
  | fn f x y fv cv hl hc hf hg ih1 ih2 => exact .fn f x y fv cv hl hc ih1 ih2
  | agg cs cv hl h1 hv ih => exact .agg cs cv hl h1 ih
  | tup cs cv hl hv ih => exact .tup cs cv hl ih

structure Env.Le (E E' : Env) : Prop where
  ok : ∀ b, E.ok b → E'.ok b
  blk : ∀ b, E.ok b → E'.w.heap[b]? = E.w.heap[b]?
  al : ∀ id, E.al id → E'.al id ∧ E'.loc id = E.loc id
  sz : ∀ (b : Nat) (c : Array Value) (t : TypeId) (f : Nat × Nat), E.w.heap[b]? = some (Obj.cells c t f) → ∃ (c' : Array Value) (f' : Nat × Nat), E'.w.heap[b]? = some (Obj.cells c' t f') ∧ c'.size = c.size

theorem Env.Le.refl (E : Env) : E.Le E := ⟨fun _ h => h, fun _ _ => rfl, fun _ h => ⟨h, rfl⟩, fun _ c _ f h => ⟨c, f, h, rfl⟩⟩
theorem Env.Le.trans {A B C : Env} (h : A.Le B) (k : B.Le C) : A.Le C :=
  ⟨fun b hb => k.ok b (h.ok b hb), fun b hb => (k.blk b (h.ok b hb)).trans (h.blk b hb), fun id hi => ⟨(k.al id (h.al id hi).1).1, (k.al id (h.al id hi).1).2.trans (h.al id hi).2⟩,
    fun b c t f hb => by
      obtain ⟨c1, f1, h1, s1⟩ := h.sz b c t f hb
      obtain ⟨c2, f2, h2, s2⟩ := k.sz b c1 t f1 h1
      exact ⟨c2, f2, h2, s2.trans s1⟩⟩

theorem Rep.mono {E E' : Env} (hle : E.Le E') {a : AV} {v : Value} (h : Rep E a v) : Rep E' a v := by
  induction h with
  | pure h => exact .pure (h.mono hle.ok hle.blk)
  | ownNil id ha hl => exact .ownNil id (hle.al id ha).1 ((hle.al id ha).2.trans hl)
  | own id off len b o z cap ha hl hc hs =>
    obtain ⟨c, t, f, hb, hz⟩ := hs
    obtain ⟨c', f', hb', hs'⟩ := hle.sz b c t f hb
    exact .own id off len b o z cap (hle.al id ha).1 ((hle.al id ha).2.trans hl) hc ⟨c', t, f', hb', by omega⟩
  | ptr id i j b o z ha hl => exact .ptr id i j b o z (hle.al id ha).1 ((hle.al id ha).2.trans hl)
  | fn f x y fv cv hl hc hf hg ih1 ih2 => exact .fn f x y fv cv hl hc ih1 ih2
  | agg cs cv hl h1 hv ih => exact .agg cs cv hl h1 ih
  | tup cs cv hl hv ih => exact .tup cs cv hl ih

theorem Cells.mono {w w' : World} {ok ok' : Nat → Prop} (hok : ∀ b, ok b → ok' b) (hb : ∀ b, ok b → w'.heap[b]? = w.heap[b]?) {c : Array Value} {o sz : Nat} {xs : List (List AV)}
    (h : Cells w ok c o sz xs) : Cells w' ok' c o sz xs := fun i cs hi => ⟨(h i cs hi).1, fun j a hj => by
      obtain ⟨x, hx, h1, hp⟩ := (h i cs hi).2 j a hj
      exact ⟨x, hx, h1, hp.mono hok hb⟩⟩

theorem ArrRel.mono {E E' : Env} {base id : Nat} {arr : Arr} (hle : E.Le E') (ha : E.al id)
    (hmut : arr.isMut = true → ∀ b o z, E.loc id = some (b, o, z) → E'.w.heap[b]? = E.w.heap[b]? ∧ ¬ E'.ok b) (h : ArrRel E base id arr) : ArrRel E' base id arr := by
  have hl := (hle.al id ha).2
  cases arr with
  | dead => trivial
  | row sz xs =>
    simp only [ArrRel] at h ⊢
    rw [hl]
    revert h
    cases h0 : E.loc id with
    | none => exact fun h => h
    | some p =>
      obtain ⟨b, o, z⟩ := p
      rintro ⟨c, t, hb, h2, h3, h4, h5, h6⟩
      obtain ⟨m1, m2⟩ := hmut rfl b o z h0
      exact ⟨c, t, m1.trans hb, h2, m2, h4, h5, h6.mono hle.ok hle.blk⟩
  | frz sz xs =>
    simp only [ArrRel] at h ⊢
    rw [hl]
    revert h
    cases h0 : E.loc id with
    | none => exact fun h => h
    | some p =>
      obtain ⟨b, o, z⟩ := p
      rintro ⟨c, t, hb, h2, h3, h4, h5, h6⟩
      exact ⟨c, t, (hle.blk b h3).trans hb, h2, hle.ok b h3, h4, h5, h6.mono hle.ok hle.blk⟩
  | box cs =>
    simp only [ArrRel] at h ⊢
    obtain ⟨b, c, t, h0, hb, h2, h3, h4, h5⟩ := h
    obtain ⟨m1, m2⟩ := hmut rfl b 0 0 h0
    exact ⟨b, c, t, hl.trans h0, m1.trans hb, h2, m2, h4, fun j a hj => by
      obtain ⟨x, hx, q1, hp⟩ := h5 j a hj
      exact ⟨x, hx, q1, hp.mono hle⟩⟩

theorem MemRel.mono {E E' : Env} {base : Nat} {mem : List (Nat × Arr)} (hle : E.Le E')
    (hmut : ∀ id arr, get mem id = some arr → arr.isMut = true → ∀ b o z, E.loc id = some (b, o, z) → E'.w.heap[b]? = E.w.heap[b]? ∧ ¬ E'.ok b) (h : MemRel E base mem) : MemRel E' base mem where
  arr id arr hg := by
    obtain ⟨ha, hr⟩ := h.arr id arr hg
    exact ⟨(hle.al id ha).1, hr.mono hle ha (hmut id arr hg)⟩
  far id id' arr arr' b o z o' z' hg hg' hm hm' hl hl' := by
    have e1 := (hle.al id (h.arr id arr hg).1).2
    have e2 := (hle.al id' (h.arr id' arr' hg').1).2
    exact h.far id id' arr arr' b o z o' z' hg hg' hm hm' (e1 ▸ hl) (e2 ▸ hl')

theorem get_cons {α : Type} (u : Nat) (v : α) (r : List (Nat × α)) (t : Nat) : get ((u, v) :: r) t = if u = t then some v else get r t := rfl

theorem MemRel.cons {E : Env} {base : Nat} {mem : List (Nat × Arr)} {id : Nat} {arr : Arr} (h : MemRel E base mem) (ha : E.al id) (hr : ArrRel E base id arr)
    (hf : arr.isMut = true → ∀ id' arr' b o z o' z', id' ≠ id → get mem id' = some arr' → arr'.isMut = true → E.loc id = some (b, o, z) → E.loc id' = some (b, o', z') → False) :
    MemRel E base ((id, arr) :: mem) where
  arr i a hg := by
    rw [get_cons] at hg
    split at hg
    · rename_i e; subst e; obtain rfl := Option.some.inj hg; exact ⟨ha, hr⟩
    · exact h.arr i a hg
  far i i' a a' b o z o' z' hg hg' hm hm' hl hl' := by
    rw [get_cons] at hg hg'
    split at hg
    · rename_i e; subst e; obtain rfl := Option.some.inj hg
      split at hg'
      · rename_i e'; exact e'
      · rename_i e'
        exact (hf hm i' a' b o z o' z' (fun q => e' q.symm) hg' hm' hl hl').elim
    · rename_i e
      split at hg'
      · rename_i e'; subst e'; obtain rfl := Option.some.inj hg'
        exact (hf hm' i a b o' z' o z (fun q => e q.symm) hg hm hl' hl).elim
      · exact h.far i i' a a' b o z o' z' hg hg' hm hm' hl hl'

/-! Types. -/
theorem run_isAgg_tsz {P : Program} {t : TypeId} {g : Bool} {n : Nat} (h : tsz P t = some (g, n)) (w : World) : (isAgg t).run P w = .ok g w := by
  unfold tsz at h
  unfold isAgg underlying
  simp only [Sem.run_bind, run_program, Result.andThen_ok]
  cases hu : P.underlying t with
  | none => simp [hu] at h
  | some d =>
    cases hi : P.info? t with
    | none => cases d <;> simp [hu, hi] at h
    | some i => cases d <;> simp [hu, hi] at h <;> simp [h.1]
theorem run_sizeOf_tsz {P : Program} {t : TypeId} {g : Bool} {n : Nat} (h : tsz P t = some (g, n)) (w : World) : (sizeOf t).run P w = .ok n w := by
  unfold tsz at h
  unfold sizeOf typeInfo
  simp only [Sem.run_bind, run_program, Result.andThen_ok]
  split at h <;> simp_all
theorem run_underlying_telem {P : Program} {t e : TypeId} (h : telem P t = some e) (w : World) : (underlying t).run P w = .ok (.slice e) w := by
  unfold telem at h
  unfold underlying
  simp only [Sem.run_bind, run_program, Result.andThen_ok]
  split at h <;> simp_all
theorem tzero_inv {P : Program} {t : TypeId} {z : List AV} (h : tzero P t = some z) : ∃ i v, P.info? t = some i ∧ i.zero = some v ∧ z = v.cells.toList.map constCell ∧ v.cells.toList.all (·.oneCell') = true := by
  unfold tzero at h
  cases hi : P.info? t with
  | none => simp [hi] at h
  | some i =>
    simp only [hi, Option.bind_some] at h
    cases hz : i.zero with
    | none => simp [hz] at h
    | some v =>
      simp only [hz, Option.bind_some] at h
      split at h
      · rename_i h1; exact ⟨i, v, rfl, hz, (Option.some.inj h).symm, h1⟩
      · exact absurd h (by simp)
theorem run_zero_tzero {P : Program} {t : TypeId} {z : List AV} (h : tzero P t = some z) (w : World) : ∃ v, (zeroValue t).run P w = .ok v w ∧ z = v.cells.toList.map constCell ∧ v.cells.toList.all (·.oneCell') = true := by
  obtain ⟨i, v, hi, hz, e, h1⟩ := tzero_inv h
  exact ⟨v, by simp [zeroValue, typeInfo, hi, hz], e, h1⟩
theorem tsz_info {P : Program} {t : TypeId} {g : Bool} {n : Nat} (h : tsz P t = some (g, n)) : ∃ i, P.info? t = some i ∧ i.size = n := by
  unfold tsz at h
  cases hu : P.underlying t with
  | none => simp [hu] at h
  | some d =>
    cases hi : P.info? t with
    | none => cases d <;> simp [hu, hi] at h
    | some i => cases d <;> simp [hu, hi] at h <;> exact ⟨i, rfl, h.2⟩
theorem run_bytes_tbytes {P : Program} {t : TypeId} {b : Nat} (h : tbytes P t = some b) (w : World) : ∃ i, (typeInfo t).run P w = .ok i w ∧ i.bytes = b := by
  unfold tbytes at h
  unfold typeInfo
  simp only [Sem.run_bind, run_program, Result.andThen_ok]
  cases hi : P.info? t with
  | none => simp [hi] at h
  | some i => simp only [hi, Option.map_some, Option.some.injEq] at h; exact ⟨i, rfl, h⟩
end Go.Ab
