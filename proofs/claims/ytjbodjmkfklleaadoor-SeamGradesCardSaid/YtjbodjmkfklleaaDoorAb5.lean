/- The abstract interpreter: what is read stays read. -/
import Derived.Test.YtjbodjmkfklleaaDoorAb3
import Derived.Laws.CopyRow
import Derived.Laws.Cells
import Derived.Laws.Append
set_option linter.unusedVariables false
set_option linter.unusedSimpArgs false
set_option linter.unusedSectionVars false

section
namespace Go.Ab
open Go.RowKit (Below)

theorem cell_of_blk {w w' : World} {b o : Nat} (h : w'.heap[b]? = w.heap[b]?) : w'.cell? ⟨b, o, none⟩ = w.cell? ⟨b, o, none⟩ :=
  World.cell?_of_block (w := w) h

theorem RepP.mono {w w' : World} {ok ok' : Nat → Prop} (hok : ∀ b, ok b → ok' b) (hb : ∀ b, ok b → w'.heap[b]? = w.heap[b]?) {a : AV} {v : Value} (h : RepP w ok a v) : RepP w' ok' a v := by
  induction h with
  | jk v => exact .jk v
  | sc v => exact .sc v
  | nil => exact .nil
  | slNil sz => exact .slNil sz
  | slEmp sz a cap => exact .slEmp sz a cap
  | sl sz xs b o cap cv hk hc hz hr h1 hv ih => exact .sl sz xs b o cap cv (hok _ hk) hc hz (fun i cs j c hi hj => by rw [cell_of_blk (hb b hk)]; exact hr i cs j c hi hj) h1 ih
  | ref cs b o cv hk hr h1 hv ih => exact .ref cs b o cv (hok _ hk) (fun j c hj => by rw [cell_of_blk (hb b hk)]; exact hr j c hj) h1 ih
  | fn f x y fv cv hl hc hf hg ih1 ih2 => exact .fn f x y fv cv hl hc ih1 ih2
  | agg cs cv hl h1 hv ih => exact .agg cs cv hl h1 ih
  | tup cs cv hl hv ih => exact .tup cs cv hl ih

structure Env.Le (E E' : Env) : Prop where
  ok : ∀ b, E.ok b → E'.ok b
  blk : ∀ b, E.ok b → E'.w.heap[b]? = E.w.heap[b]?
  al : ∀ id, E.al id → E'.al id ∧ E'.loc id = E.loc id
  sz : ∀ (b : Nat) (c : Array Value) (t : TypeId) (f : Nat × Nat), E.w.heap[b]? = some (Obj.cells c t f) → ∃ (c' : Array Value) (f' : Nat × Nat), E'.w.heap[b]? = some (Obj.cells c' t f') ∧ c'.size = c.size

theorem Env.Le.refl (E : Env) : E.Le E := ⟨fun _ h => h, fun _ _ => rfl, fun _ h => ⟨h, rfl⟩, fun _ c _ f h => ⟨c, f, h, rfl⟩⟩
theorem Env.Le.trans {A B C : Env} (h : A.Le B) (k : B.Le C) : A.Le C :=
  ⟨fun b hb => k.ok b (h.ok b hb), fun b hb => (k.blk b (h.ok b hb)).trans (h.blk b hb), fun id hi => ⟨(k.al id (h.al id hi).1).1, (k.al id (h.al id hi).1).2.trans (h.al id hi).2⟩,
    fun b c t f hb => by
      obtain ⟨c1, f1, h1, s1⟩ := h.sz b c t f hb
      obtain ⟨c2, f2, h2, s2⟩ := k.sz b c1 t f1 h1
      exact ⟨c2, f2, h2, s2.trans s1⟩⟩

theorem Rep.mono {E E' : Env} (hle : E.Le E') {a : AV} {v : Value} (h : Rep E a v) : Rep E' a v := by
  induction h with
  | pure h => exact .pure (h.mono hle.ok hle.blk)
  | ownNil id ha hl => exact .ownNil id (hle.al id ha).1 ((hle.al id ha).2.trans hl)
  | own id off len b o z cap ha hl hc hs =>
    obtain ⟨c, t, f, hb, hz⟩ := hs
    obtain ⟨c', f', hb', hs'⟩ := hle.sz b c t f hb
    exact .own id off len b o z cap (hle.al id ha).1 ((hle.al id ha).2.trans hl) hc ⟨c', t, f', hb', by omega⟩
  | ptr id i j b o z ha hl => exact .ptr id i j b o z (hle.al id ha).1 ((hle.al id ha).2.trans hl)
  | fn f x y fv cv hl hc hf hg ih1 ih2 => exact .fn f x y fv cv hl hc ih1 ih2
  | agg cs cv hl h1 hv ih => exact .agg cs cv hl h1 ih
  | tup cs cv hl hv ih => exact .tup cs cv hl ih

theorem Cells.mono {w w' : World} {ok ok' : Nat → Prop} (hok : ∀ b, ok b → ok' b) (hb : ∀ b, ok b → w'.heap[b]? = w.heap[b]?) {c : Array Value} {o sz : Nat} {xs : List (List AV)}
    (h : Cells w ok c o sz xs) : Cells w' ok' c o sz xs := fun i cs hi => ⟨(h i cs hi).1, fun j a hj => by
      obtain ⟨x, hx, h1, hp⟩ := (h i cs hi).2 j a hj
      exact ⟨x, hx, h1, hp.mono hok hb⟩⟩

theorem ArrRel.mono {E E' : Env} {base id : Nat} {arr : Arr} (hle : E.Le E') (ha : E.al id)
    (hmut : arr.isMut = true → ∀ b o z, E.loc id = some (b, o, z) → E'.w.heap[b]? = E.w.heap[b]? ∧ ¬ E'.ok b) (h : ArrRel E base id arr) : ArrRel E' base id arr := by
  have hl := (hle.al id ha).2
  cases arr with
  | dead => trivial
  | row sz xs =>
    simp only [ArrRel] at h ⊢
    rw [hl]
    revert h
    cases h0 : E.loc id with
    | none => exact fun h => h
    | some p =>
      obtain ⟨b, o, z⟩ := p
      rintro ⟨c, t, hb, h2, h3, h4, h5, h6⟩
      obtain ⟨m1, m2⟩ := hmut rfl b o z h0
      exact ⟨c, t, m1.trans hb, h2, m2, h4, h5, h6.mono hle.ok hle.blk⟩
  | frz sz xs =>
    simp only [ArrRel] at h ⊢
    rw [hl]
    revert h
    cases h0 : E.loc id with
    | none => exact fun h => h
    | some p =>
      obtain ⟨b, o, z⟩ := p
      rintro ⟨c, t, hb, h2, h3, h4, h5, h6⟩
      exact ⟨c, t, (hle.blk b h3).trans hb, h2, hle.ok b h3, h4, h5, h6.mono hle.ok hle.blk⟩
  | box cs =>
    simp only [ArrRel] at h ⊢
    obtain ⟨b, c, t, h0, hb, h2, h3, h4, h5⟩ := h
    obtain ⟨m1, m2⟩ := hmut rfl b 0 0 h0
    exact ⟨b, c, t, hl.trans h0, m1.trans hb, h2, m2, h4, fun j a hj => by
      obtain ⟨x, hx, q1, hp⟩ := h5 j a hj
      exact ⟨x, hx, q1, hp.mono hle⟩⟩

theorem MemRel.mono {E E' : Env} {base : Nat} {mem : List (Nat × Arr)} (hle : E.Le E')
    (hmut : ∀ id arr, get mem id = some arr → arr.isMut = true → ∀ b o z, E.loc id = some (b, o, z) → E'.w.heap[b]? = E.w.heap[b]? ∧ ¬ E'.ok b) (h : MemRel E base mem) : MemRel E' base mem where
  arr id arr hg := by
    obtain ⟨ha, hr⟩ := h.arr id arr hg
    exact ⟨(hle.al id ha).1, hr.mono hle ha (hmut id arr hg)⟩
  far id id' arr arr' b o z o' z' hg hg' hm hm' hl hl' := by
    have e1 := (hle.al id (h.arr id arr hg).1).2
    have e2 := (hle.al id' (h.arr id' arr' hg').1).2
    exact h.far id id' arr arr' b o z o' z' hg hg' hm hm' (e1 ▸ hl) (e2 ▸ hl')

theorem get_cons {α : Type} (u : Nat) (v : α) (r : List (Nat × α)) (t : Nat) : get ((u, v) :: r) t = if u = t then some v else get r t := rfl

theorem MemRel.cons {E : Env} {base : Nat} {mem : List (Nat × Arr)} {id : Nat} {arr : Arr} (h : MemRel E base mem) (ha : E.al id) (hr : ArrRel E base id arr)
    (hf : arr.isMut = true → ∀ id' arr' b o z o' z', id' ≠ id → get mem id' = some arr' → arr'.isMut = true → E.loc id = some (b, o, z) → E.loc id' = some (b, o', z') → False) :
    MemRel E base ((id, arr) :: mem) where
  arr i a hg := by
    rw [get_cons] at hg
    split at hg
    · rename_i e; subst e; obtain rfl := Option.some.inj hg; exact ⟨ha, hr⟩
    · exact h.arr i a hg
  far i i' a a' b o z o' z' hg hg' hm hm' hl hl' := by
    rw [get_cons] at hg hg'
    split at hg
    · rename_i e; subst e; obtain rfl := Option.some.inj hg
      split at hg'
      · rename_i e'; exact e'
      · rename_i e'
        exact (hf hm i' a' b o z o' z' (fun q => e' q.symm) hg' hm' hl hl').elim
    · rename_i e
      split at hg'
      · rename_i e'; subst e'; obtain rfl := Option.some.inj hg'
        exact (hf hm' i a b o' z' o z (fun q => e q.symm) hg hm hl' hl).elim
      · exact h.far i i' a a' b o z o' z' hg hg' hm hm' hl hl'

/-! Types. -/
theorem run_isAgg_tsz {P : Program} {t : TypeId} {g : Bool} {n : Nat} (h : tsz P t = some (g, n)) (w : World) : (isAgg t).run P w = .ok g w := by
  unfold tsz at h
  unfold isAgg underlying
  simp only [Sem.run_bind, run_program, Result.andThen_ok]
  cases hu : P.underlying t with
  | none => simp [hu] at h
  | some d =>
    cases hi : P.info? t with
    | none => cases d <;> simp [hu, hi] at h
    | some i => cases d <;> simp [hu, hi] at h <;> simp [h.1]
theorem run_sizeOf_tsz {P : Program} {t : TypeId} {g : Bool} {n : Nat} (h : tsz P t = some (g, n)) (w : World) : (sizeOf t).run P w = .ok n w := by
  unfold tsz at h
  unfold sizeOf typeInfo
  simp only [Sem.run_bind, run_program, Result.andThen_ok]
  split at h <;> simp_all
theorem tzero_inv {P : Program} {t : TypeId} {z : List AV} (h : tzero P t = some z) : ∃ i v, P.info? t = some i ∧ i.zero = some v ∧ z = v.cells.toList.map constCell ∧ v.cells.toList.all (·.oneCell') = true := by
  unfold tzero at h
  cases hi : P.info? t with
  | none => simp [hi] at h
  | some i =>
    simp only [hi, Option.bind_some] at h
    cases hz : i.zero with
    | none => simp [hz] at h
    | some v =>
      simp only [hz, Option.bind_some] at h
      split at h
      · rename_i h1; exact ⟨i, v, rfl, hz, (Option.some.inj h).symm, h1⟩
      · exact absurd h (by simp)
theorem run_zero_tzero {P : Program} {t : TypeId} {z : List AV} (h : tzero P t = some z) (w : World) : ∃ v, (zeroValue t).run P w = .ok v w ∧ z = v.cells.toList.map constCell ∧ v.cells.toList.all (·.oneCell') = true := by
  obtain ⟨i, v, hi, hz, e, h1⟩ := tzero_inv h
  exact ⟨v, by simp [zeroValue, typeInfo, hi, hz], e, h1⟩
theorem tsz_info {P : Program} {t : TypeId} {g : Bool} {n : Nat} (h : tsz P t = some (g, n)) : ∃ i, P.info? t = some i ∧ i.size = n := by
  unfold tsz at h
  cases hu : P.underlying t with
  | none => simp [hu] at h
  | some d =>
    cases hi : P.info? t with
    | none => cases d <;> simp [hu, hi] at h
    | some i => cases d <;> simp [hu, hi] at h <;> exact ⟨i, rfl, h.2⟩
end Go.Ab
end

section
namespace Go.Ab
open Go.RowKit (Below)

structure Stepped (E : Env) (w0 : World) (okb : Nat → Prop) (mem : List (Nat × Arr)) (nx : Nat) (r : Res) (x : Value) (E' : Env) : Prop where
  le : E.Le E'
  al : ∀ id, E'.al id ↔ E.al id ∨ (nx ≤ id ∧ id < r.nx)
  nx : nx ≤ r.nx
  frm : Frm E' w0 okb
  mem : MemRel E' w0.heap.size (r.d ++ mem)
  rep : Rep E' r.v x

theorem Stepped.same {E : Env} {w0 : World} {okb : Nat → Prop} {mem : List (Nat × Arr)} {nx : Nat} {v : AV} {rd : List Nat} {x : Value} (hF : Frm E w0 okb) (hM : MemRel E w0.heap.size mem)
    (h : Rep E v x) : Stepped E w0 okb mem nx ⟨v, [], nx, rd⟩ x E :=
  ⟨.refl E, fun id => ⟨.inl, fun h => h.elim (fun h => h) (fun h => by simp only at h; omega)⟩, Nat.le_refl _, hF, hM, h⟩

def Reps (E : Env) (cs : List AV) (cv : List Value) : Prop := cv.length = cs.length ∧ ∀ (j : Nat) (c : AV) (v : Value), cs[j]? = some c → cv[j]? = some v → Rep E c v

/-! What a value must look like. -/
theorem Rep.sc_inv {E : Env} {v x : Value} (h : Rep E (.sc v) x) : x = v := by
  cases h with
  | pure h => cases h; rfl
theorem Rep.nil_inv {E : Env} {x : Value} (h : Rep E .nil x) : x = .slice none 0 0 := by
  cases h with
  | pure h => cases h; rfl
theorem Rep.sl_inv {E : Env} {sz : Nat} {xs : List (List AV)} {x : Value} (h : Rep E (.sl sz xs) x) : (xs = [] ∧ (x = .slice none 0 0 ∨ ∃ a cap, x = .slice (some a) 0 cap)) ∨ ∃ b o cap, x = .slice (some ⟨b, o, none⟩) xs.length cap ∧ E.ok b ∧ xs.length ≤ cap ∧
    (∀ (i : Nat) (cs : List AV), xs[i]? = some cs → cs.length = sz) ∧ ∀ (i : Nat) (cs : List AV) (j : Nat) (c : AV), xs[i]? = some cs → cs[j]? = some c → ∃ y, E.w.cell? ⟨b, o + i * sz + j, none⟩ = some y ∧ y.oneCell' = true ∧ RepP E.w E.ok c y := by
  cases h with
  | pure h =>
    cases h with
    | slNil => exact .inl ⟨rfl, .inl rfl⟩
    | slEmp _ a cap => exact .inl ⟨rfl, .inr ⟨a, cap, rfl⟩⟩
    | sl _ _ b o cap cv hk hc hz hr h1 hv => exact .inr ⟨b, o, cap, rfl, hk, hc, hz, fun i cs j c hi hj => ⟨cv i j, hr i cs j c hi hj, h1 i cs j c hi hj, hv i cs j c hi hj⟩⟩
theorem Rep.own_inv {E : Env} {id off len : Nat} {x : Value} (h : Rep E (.own id off len) x) : E.al id ∧ ((E.loc id = none ∧ off = 0 ∧ len = 0 ∧ x = .slice none 0 0) ∨
    ∃ b o z cap, E.loc id = some (b, o, z) ∧ x = .slice (some ⟨b, o + off * z, none⟩) len cap ∧ len ≤ cap ∧ ∃ (c : Array Value) (t : TypeId) (f : Nat × Nat), E.w.heap[b]? = some (.cells c t f) ∧ o + (off + cap) * z ≤ c.size) := by
  cases h with
  | pure h => cases h
  | ownNil id ha hl => exact ⟨ha, .inl ⟨hl, rfl, rfl, rfl⟩⟩
  | own id off len b o z cap ha hl hc hs => exact ⟨ha, .inr ⟨b, o, z, cap, hl, rfl, hc, hs⟩⟩
theorem Rep.ptr_inv {E : Env} {id i j : Nat} {x : Value} (h : Rep E (.ptr id i j) x) : E.al id ∧ ∃ b o z, E.loc id = some (b, o, z) ∧ x = .pointer (some ⟨b, o + i * z + j, none⟩) := by
  cases h with
  | pure h => cases h
  | ptr id i j b o z ha hl => exact ⟨ha, b, o, z, hl, rfl⟩
theorem Rep.ref_inv {E : Env} {cs : List AV} {x : Value} (h : Rep E (.ref cs) x) : ∃ b o, x = .pointer (some ⟨b, o, none⟩) ∧ E.ok b ∧ ∀ j c, cs[j]? = some c → ∃ y, E.w.cell? ⟨b, o + j, none⟩ = some y ∧ y.oneCell' = true ∧ RepP E.w E.ok c y := by
  cases h with
  | pure h =>
    cases h with
    | ref _ b o cv hk hr h1 hv => exact ⟨b, o, rfl, hk, fun j c hj => ⟨cv j, hr j c hj, h1 j c hj, hv j c hj⟩⟩
theorem Rep.agg_inv {E : Env} {cs : List AV} {x : Value} (h : Rep E (.agg cs) x) : ∃ cv : List Value, x = .agg cv.toArray ∧ (∀ v, v ∈ cv → v.oneCell' = true) ∧ Reps E cs cv := by
  cases h with
  | pure h =>
    cases h with
    | agg _ cv hl h1 hv => exact ⟨cv, rfl, h1, hl, fun j c v hj hv' => .pure (hv j c v hj hv')⟩
  | agg _ cv hl h1 hv => exact ⟨cv, rfl, h1, hl, hv⟩
theorem Rep.tup_inv {E : Env} {cs : List AV} {x : Value} (h : Rep E (.tup cs) x) : ∃ cv : List Value, x = .tuple cv.toArray ∧ Reps E cs cv := by
  cases h with
  | pure h =>
    cases h with
    | tup _ cv hl hv => exact ⟨cv, rfl, hl, fun j c v hj hv' => .pure (hv j c v hj hv')⟩
  | tup _ cv hl hv => exact ⟨cv, rfl, hl, hv⟩
theorem Rep.fn_inv {E : Env} {f : FuncId} {x y : List AV} {v : Value} (h : Rep E (.fn f x y) v) : ∃ fv cv : List Value, v = .func (.func f) fv.toArray cv.toArray ∧ Reps E x fv ∧ Reps E y cv := by
  cases h with
  | pure h =>
    cases h with
    | fn _ _ _ fv cv hl hc hf hg => exact ⟨fv, cv, rfl, ⟨hl, fun j c v hj hv => .pure (hf j c v hj hv)⟩, hc, fun j c v hj hv => .pure (hg j c v hj hv)⟩
  | fn _ _ _ fv cv hl hc hf hg => exact ⟨fv, cv, rfl, ⟨hl, hf⟩, hc, hg⟩
/-- The machine's slots. -/
def TmOk (E : Env) (s : AS) (a : Act) : Prop := ∀ t v, get s.tm t = some v → ∃ x, a.tmps[t]? = some x ∧ Rep E v x

theorem constCell_rep (E : Env) (v : Value) : Rep E (constCell v) v := by
  unfold constCell
  split
  · exact .pure .nil
  · exact .pure (.sc _)
theorem Reps.map_const (E : Env) (l : List Value) : Reps E (l.map constCell) l := by
  refine ⟨by simp, fun j c v hc hv => ?_⟩
  simp only [List.getElem?_map, hv, Option.map_some, Option.some.injEq] at hc
  subst hc
  exact constCell_rep E v
theorem constAV_rep (E : Env) (v : Value) (h : cok v = true) : Rep E (constAV v) v := by
  unfold constAV
  split
  · rename_i cs
    obtain ⟨l⟩ := cs
    have hm := Reps.map_const E l
    refine .agg _ l hm.1 (fun v hv => ?_) hm.2
    simpa using (Array.all_eq_true'.1 h) v (by simpa using hv)
  · exact constCell_rep E _

theorem opr_sound {E : Env} {s : AS} {a : Act} (hT : TmOk E s a) {x : Operand} {v : AV} (h : opr s x = some v) : Rep E v (a.eval x) := by
  cases x with
  | tmp t =>
    obtain ⟨y, hy, hr⟩ := hT t v h
    simpa [Act.eval, Array.getD_eq_getD_getElem?, hy] using hr
  | const c =>
    simp only [opr] at h
    split at h
    · obtain rfl := Option.some.inj h; exact constAV_rep E c (by assumption)
    · exact absurd h (by simp)
  | func f =>
    obtain rfl := Option.some.inj h
    exact .pure (.fn f [] [] [] [] rfl rfl (by simp) (by simp))
  | global g => exact absurd h (by simp [opr])

theorem oprs_sound {E : Env} {s : AS} {a : Act} (hT : TmOk E s a) : ∀ {l : List Operand} {vs : List AV}, oprs s l = some vs → Reps E vs (l.map a.eval)
  | [], vs, h => by obtain rfl := Option.some.inj h; exact ⟨rfl, by simp⟩
  | x :: r, vs, h => by
    unfold oprs at h
    split at h
    · rename_i v vs' hx hr
      obtain rfl := Option.some.inj h
      have ih := oprs_sound hT hr
      refine ⟨by simp [ih.1], fun j c v hc hv => ?_⟩
      cases j with
      | zero => simp at hc hv; subst hc hv; exact opr_sound hT hx
      | succ j => exact ih.2 j c v (by simpa using hc) (by simpa using hv)
    · exact absurd h (by simp)

/-- A list of witnesses. -/
theorem listOf {α β : Type} {Q : Nat → α → β → Prop} : ∀ (cs : List α) (_ : ∀ j c, cs[j]? = some c → ∃ y, Q j c y), ∃ cv : List β, cv.length = cs.length ∧ ∀ j c y, cs[j]? = some c → cv[j]? = some y → Q j c y
  | [], _ => ⟨[], rfl, by simp⟩
  | c :: r, h => by
    obtain ⟨y, hy⟩ := h 0 c rfl
    obtain ⟨cv, hl, hq⟩ := listOf (Q := fun j => Q (j + 1)) r (fun j c hc => h (j + 1) c (by simpa using hc))
    refine ⟨y :: cv, by simp [hl], fun j c' y' hc hy' => ?_⟩
    cases j with
    | zero => simp at hc hy'; subst hc hy'; exact hy
    | succ j => exact hq j c' y' (by simpa using hc) (by simpa using hy')

theorem cell_at {w : World} {b o : Nat} {c : Array Value} {t : TypeId} {f : Nat × Nat} (h : w.heap[b]? = some (.cells c t f)) : w.cell? ⟨b, o, none⟩ = c[o]? := by
  simp [World.cell?, h]

theorem behind_sound {E : Env} {base : Nat} {s : AS} {p : AV} {x : Value} {cs : List AV} {rd : List Nat} (hM : MemRel E base s.mem) (h : behind s p = some (cs, rd)) (hp : Rep E p x) :
    ∃ b o, x = .pointer (some ⟨b, o, none⟩) ∧ ∀ j c, cs[j]? = some c → ∃ y, E.w.cell? ⟨b, o + j, none⟩ = some y ∧ y.oneCell' = true ∧ Rep E c y := by
  unfold behind at h
  split at h
  · obtain ⟨rfl, -⟩ := Prod.mk.inj (Option.some.inj h)
    obtain ⟨b, o, rfl, _, hc⟩ := hp.ref_inv
    exact ⟨b, o, rfl, fun j c hj => by obtain ⟨y, h1, h2, h3⟩ := hc j c hj; exact ⟨y, h1, h2, .pure h3⟩⟩
  · rename_i id i j
    obtain ⟨ha, b, o, z, hl, rfl⟩ := hp.ptr_inv
    refine ⟨b, _, rfl, ?_⟩
    split at h
    · rename_i bs hg
      split at h
      · rename_i hi
        subst hi
        obtain ⟨rfl, -⟩ := Prod.mk.inj (Option.some.inj h)
        obtain ⟨b', c, t, hl', hb, _, _, hs, hc⟩ := (hM.arr id _ hg).2
        rw [hl] at hl'
        obtain ⟨rfl, rfl, rfl⟩ : b = b' ∧ o = 0 ∧ z = 0 := by simpa using hl'
        intro q a hq
        rw [List.getElem?_drop] at hq
        obtain ⟨y, h1, h2, h3⟩ := hc (j + q) a hq
        exact ⟨y, by rw [cell_at hb]; simpa using h1, h2, h3⟩
      · exact absurd h (by simp)
    · rename_i sz xs hg
      split at h
      · rename_i cs0 hx
        obtain ⟨rfl, -⟩ := Prod.mk.inj (Option.some.inj h)
        have hr := (hM.arr id _ hg).2
        simp only [ArrRel, hl] at hr
        obtain ⟨c, t, hb, _, _, _, hz, hc⟩ := hr
        subst hz
        intro q a hq
        rw [List.getElem?_drop] at hq
        obtain ⟨y, h1, h2, h3⟩ := (hc i cs0 hx).2 (j + q) a hq
        exact ⟨y, by rw [cell_at hb, Nat.add_assoc]; exact h1, h2, .pure h3⟩
      · exact absurd h (by simp)
    · rename_i sz xs hg
      split at h
      · rename_i cs0 hx
        obtain ⟨rfl, -⟩ := Prod.mk.inj (Option.some.inj h)
        have hr := (hM.arr id _ hg).2
        simp only [ArrRel, hl] at hr
        obtain ⟨c, t, hb, _, _, _, hz, hc⟩ := hr
        subst hz
        intro q a hq
        rw [List.getElem?_drop] at hq
        obtain ⟨y, h1, h2, h3⟩ := (hc i cs0 hx).2 (j + q) a hq
        exact ⟨y, by rw [cell_at hb, Nat.add_assoc]; exact h1, h2, .pure h3⟩
      · exact absurd h (by simp)
    · exact absurd h (by simp)
  · exact absurd h (by simp)

theorem addr_add (b o n : Nat) : (⟨b, o, none⟩ : Addr).add n = ⟨b, o + n, none⟩ := by
  unfold Addr.add; split <;> simp_all

theorem take_reps {E : Env} {cs : List AV} {cv : List Value} (h : Reps E cs cv) (n : Nat) : Reps E (cs.take n) (cv.take n) := by
  refine ⟨by simp [h.1], fun j c v hc hv => ?_⟩
  rw [List.getElem?_take] at hc hv
  split at hc
  · rename_i hj; simp only [hj, if_true] at hv; exact h.2 j c v hc hv
  · exact absurd hc (by simp)
theorem drop_reps {E : Env} {cs : List AV} {cv : List Value} (h : Reps E cs cv) (n : Nat) : Reps E (cs.drop n) (cv.drop n) := by
  refine ⟨by simp [h.1], fun j c v hc hv => ?_⟩
  rw [List.getElem?_drop] at hc hv
  exact h.2 _ c v hc hv

theorem loadVar_sound {E : Env} {P : Program} {t : TypeId} {z : Bool × Nat} {cs : List AV} {v : AV} {b o : Nat} (hz : tsz P t = some z) (hp : part z cs = some v)
    (hc : ∀ j c, cs[j]? = some c → ∃ y, E.w.cell? ⟨b, o + j, none⟩ = some y ∧ y.oneCell' = true ∧ Rep E c y) : ∃ x, (loadVar t ⟨b, o, none⟩).run P E.w = .ok x E.w ∧ Rep E v x := by
  obtain ⟨g, n⟩ := z
  obtain ⟨cv, hl, hq⟩ := listOf cs hc
  have hR : Reps E cs cv := ⟨hl, fun j c v h1 h2 => (hq j c v h1 h2).2.2⟩
  unfold loadVar
  simp only [Sem.run_bind, run_isAgg_tsz hz, Result.andThen_ok]
  cases g with
  | true =>
    simp only [part, if_true] at hp
    split at hp
    · rename_i hn
      obtain rfl := Option.some.inj hp
      have hl' : (cv.take n).length = n := by simp; omega
      have hrun : (loadCells ⟨b, o, none⟩ n).run P E.w = .ok (cv.take n).toArray E.w := by
        have := run_loadCells_list (P := P) (w := E.w) ⟨b, o, none⟩ (cv.take n) (fun j v hv => by
          rw [addr_add]
          rw [List.getElem?_take] at hv
          split at hv
          · rename_i hj
            obtain ⟨c, hc'⟩ : ∃ c, cs[j]? = some c := ⟨_, List.getElem?_eq_getElem (by omega)⟩
            exact (hq j c v hc' hv).1
          · exact absurd hv (by simp))
        rwa [hl'] at this
      refine ⟨.agg (cv.take n).toArray, by simp [run_sizeOf_tsz hz, hrun], ?_⟩
      have ht := take_reps hR n
      exact .agg _ _ ht.1 (fun v hv => by
        obtain ⟨j, hj⟩ := List.getElem?_of_mem (List.mem_of_mem_take hv)
        obtain ⟨c, hc'⟩ : ∃ c, cs[j]? = some c := ⟨_, List.getElem?_eq_getElem (by have := (List.getElem?_eq_some_iff.1 hj).1; omega)⟩
        exact (hq j c v hc' hj).2.1) ht.2
    · exact absurd hp (by simp)
  | false =>
    simp only [part, Bool.false_eq_true, if_false] at hp
    cases cs with
    | nil => exact absurd hp (by simp)
    | cons c r =>
      obtain rfl := Option.some.inj hp
      obtain ⟨y, h1, h2, h3⟩ := hc 0 c rfl
      exact ⟨y, by simpa using by rw [Nat.add_zero] at h1; simp [h1], h3⟩

theorem load_sound {E : Env} {P : Program} {w0 : World} {okb : Nat → Prop} {s : AS} {t : TypeId} {p : AV} {x : Value} {r : Res} (hF : Frm E w0 okb) (hM : MemRel E w0.heap.size s.mem)
    (hp : Rep E p x) (h : loadE P s t p = some r) : ∃ y, (Instr.loadAt t x).run P E.w = .ok y E.w ∧ Stepped E w0 okb s.mem s.nx r y E := by
  unfold loadE at h
  split at h
  · rename_i z cs rd hz hb
    split at h
    · rename_i v hv
      obtain rfl := Option.some.inj h
      obtain ⟨b, o, rfl, hc⟩ := behind_sound hM hb hp
      obtain ⟨y, hy, hr⟩ := loadVar_sound hz hv hc
      exact ⟨y, by simp [Instr.loadAt, Instr.sureAddr, hy], .same hF hM hr⟩
    · exact absurd h (by simp)
  · exact absurd h (by simp)
end Go.Ab
end
