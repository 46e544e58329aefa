/- The abstract interpreter: operations that make no memory. -/
import Derived.Test.YtchibfkcphbmjaaAb4
set_option linter.unusedVariables false
set_option linter.unusedSimpArgs false
set_option linter.unusedSectionVars false

namespace Go.Ab
open Go.RowKit (Below)

structure Stepped (E : Env) (w0 : World) (okb : Nat → Prop) (mem : List (Nat × Arr)) (nx : Nat) (r : Res) (x : Value) (E' : Env) : Prop where
  le : E.Le E'
  al : ∀ id, E'.al id ↔ E.al id ∨ (nx ≤ id ∧ id < r.nx)
  nx : nx ≤ r.nx
  frm : Frm E' w0 okb
  mem : MemRel E' w0.heap.size (r.d ++ mem)
  rep : Rep E' r.v x

theorem Stepped.same {E : Env} {w0 : World} {okb : Nat → Prop} {mem : List (Nat × Arr)} {nx : Nat} {v : AV} {rd : List Nat} {x : Value} (hF : Frm E w0 okb) (hM : MemRel E w0.heap.size mem)
    (h : Rep E v x) : Stepped E w0 okb mem nx ⟨v, [], nx, rd⟩ x E :=
  ⟨.refl E, fun id => ⟨.inl, fun h => h.elim (fun h => h) (fun h => by simp only at h; omega)⟩, Nat.le_refl _, hF, hM, h⟩

def Reps (E : Env) (cs : List AV) (cv : List Value) : Prop := cv.length = cs.length ∧ ∀ (j : Nat) (c : AV) (v : Value), cs[j]? = some c → cv[j]? = some v → Rep E c v

/-! What a value must look like. -/
theorem Rep.sc_inv {E : Env} {v x : Value} (h : Rep E (.sc v) x) : x = v := by
  cases h with
  | pure h => cases h; rfl
theorem Rep.nil_inv {E : Env} {x : Value} (h : Rep E .nil x) : x = .slice none 0 0 := by
  cases h with
  | pure h => cases h; rfl
theorem Rep.sl_inv {E : Env} {sz : Nat} {xs : List (List AV)} {x : Value} (h : Rep E (.sl sz xs) x) : (xs = [] ∧ (x = .slice none 0 0 ∨ ∃ a cap, x = .slice (some a) 0 cap)) ∨ ∃ b o cap, x = .slice (some ⟨b, o, none⟩) xs.length cap ∧ E.ok b ∧ xs.length ≤ cap ∧
    (∀ (i : Nat) (cs : List AV), xs[i]? = some cs → cs.length = sz) ∧ ∀ (i : Nat) (cs : List AV) (j : Nat) (c : AV), xs[i]? = some cs → cs[j]? = some c → ∃ y, E.w.cell? ⟨b, o + i * sz + j, none⟩ = some y ∧ y.oneCell' = true ∧ RepP E.w E.ok c y := by
  cases h with
  | pure h =>
    cases h with
    | slNil => exact .inl ⟨rfl, .inl rfl⟩
    | slEmp _ a cap => exact .inl ⟨rfl, .inr ⟨a, cap, rfl⟩⟩
    | sl _ _ b o cap cv hk hc hz hr h1 hv => exact .inr ⟨b, o, cap, rfl, hk, hc, hz, fun i cs j c hi hj => ⟨cv i j, hr i cs j c hi hj, h1 i cs j c hi hj, hv i cs j c hi hj⟩⟩
theorem Rep.own_inv {E : Env} {id off len : Nat} {x : Value} (h : Rep E (.own id off len) x) : E.al id ∧ ((E.loc id = none ∧ off = 0 ∧ len = 0 ∧ x = .slice none 0 0) ∨
    ∃ b o z cap, E.loc id = some (b, o, z) ∧ x = .slice (some ⟨b, o + off * z, none⟩) len cap ∧ len ≤ cap ∧ ∃ (c : Array Value) (t : TypeId) (f : Nat × Nat), E.w.heap[b]? = some (.cells c t f) ∧ o + (off + cap) * z ≤ c.size) := by
  cases h with
  | pure h => cases h
  | ownNil id ha hl => exact ⟨ha, .inl ⟨hl, rfl, rfl, rfl⟩⟩
  | own id off len b o z cap ha hl hc hs => exact ⟨ha, .inr ⟨b, o, z, cap, hl, rfl, hc, hs⟩⟩
theorem Rep.ptr_inv {E : Env} {id i j : Nat} {x : Value} (h : Rep E (.ptr id i j) x) : E.al id ∧ ∃ b o z, E.loc id = some (b, o, z) ∧ x = .pointer (some ⟨b, o + i * z + j, none⟩) := by
  cases h with
  | pure h => cases h
  | ptr id i j b o z ha hl => exact ⟨ha, b, o, z, hl, rfl⟩
theorem Rep.ref_inv {E : Env} {cs : List AV} {x : Value} (h : Rep E (.ref cs) x) : ∃ b o, x = .pointer (some ⟨b, o, none⟩) ∧ E.ok b ∧ ∀ j c, cs[j]? = some c → ∃ y, E.w.cell? ⟨b, o + j, none⟩ = some y ∧ y.oneCell' = true ∧ RepP E.w E.ok c y := by
  cases h with
  | pure h =>
    cases h with
    | ref _ b o cv hk hr h1 hv => exact ⟨b, o, rfl, hk, fun j c hj => ⟨cv j, hr j c hj, h1 j c hj, hv j c hj⟩⟩
theorem Rep.agg_inv {E : Env} {cs : List AV} {x : Value} (h : Rep E (.agg cs) x) : ∃ cv : List Value, x = .agg cv.toArray ∧ (∀ v, v ∈ cv → v.oneCell' = true) ∧ Reps E cs cv := by
  cases h with
  | pure h =>
    cases h with
    | agg _ cv hl h1 hv => exact ⟨cv, rfl, h1, hl, fun j c v hj hv' => .pure (hv j c v hj hv')⟩
  | agg _ cv hl h1 hv => exact ⟨cv, rfl, h1, hl, hv⟩
theorem Rep.tup_inv {E : Env} {cs : List AV} {x : Value} (h : Rep E (.tup cs) x) : ∃ cv : List Value, x = .tuple cv.toArray ∧ Reps E cs cv := by
  cases h with
  | pure h =>
    cases h with
    | tup _ cv hl hv => exact ⟨cv, rfl, hl, fun j c v hj hv' => .pure (hv j c v hj hv')⟩
  | tup _ cv hl hv => exact ⟨cv, rfl, hl, hv⟩
theorem Rep.fn_inv {E : Env} {f : FuncId} {x y : List AV} {v : Value} (h : Rep E (.fn f x y) v) : ∃ fv cv : List Value, v = .func (.func f) fv.toArray cv.toArray ∧ Reps E x fv ∧ Reps E y cv := by
  cases h with
  | pure h =>
    cases h with
    | fn _ _ _ fv cv hl hc hf hg => exact ⟨fv, cv, rfl, ⟨hl, fun j c v hj hv => .pure (hf j c v hj hv)⟩, hc, fun j c v hj hv => .pure (hg j c v hj hv)⟩
  | fn _ _ _ fv cv hl hc hf hg => exact ⟨fv, cv, rfl, ⟨hl, hf⟩, hc, hg⟩
theorem Rep.fr_inv {E : Env} {sz : Nat} {xs : List (List AV)} {x : Value} (h : Rep E (.fr sz xs) x) : False := by
  cases h with
  | pure h => cases h

/-- The machine's slots. -/
def TmOk (E : Env) (s : AS) (a : Act) : Prop := ∀ t v, get s.tm t = some v → ∃ x, a.tmps[t]? = some x ∧ Rep E v x

theorem constCell_rep (E : Env) (v : Value) : Rep E (constCell v) v := by
  unfold constCell
  split
  · exact .pure .nil
  · exact .pure (.sc _)
theorem Reps.map_const (E : Env) (l : List Value) : Reps E (l.map constCell) l := by
  refine ⟨by simp, fun j c v hc hv => ?_⟩
  simp only [List.getElem?_map, hv, Option.map_some, Option.some.injEq] at hc
  subst hc
  exact constCell_rep E v
theorem constAV_rep (E : Env) (v : Value) (h : cok v = true) : Rep E (constAV v) v := by
  unfold constAV
  split
  · rename_i cs
    obtain ⟨l⟩ := cs
    have hm := Reps.map_const E l
    refine .agg _ l hm.1 (fun v hv => ?_) hm.2
    simpa using (Array.all_eq_true'.1 h) v (by simpa using hv)
  · exact constCell_rep E _

theorem opr_sound {E : Env} {s : AS} {a : Act} (hT : TmOk E s a) {x : Operand} {v : AV} (h : opr s x = some v) : Rep E v (a.eval x) := by
  cases x with
  | tmp t =>
    obtain ⟨y, hy, hr⟩ := hT t v h
    simpa [Act.eval, Array.getD_eq_getD_getElem?, hy] using hr
  | const c =>
    simp only [opr] at h
    split at h
    · obtain rfl := Option.some.inj h; exact constAV_rep E c (by assumption)
    · exact absurd h (by simp)
  | func f =>
    obtain rfl := Option.some.inj h
    exact .pure (.fn f [] [] [] [] rfl rfl (by simp) (by simp))
  | global g => exact absurd h (by simp [opr])

theorem oprs_sound {E : Env} {s : AS} {a : Act} (hT : TmOk E s a) : ∀ {l : List Operand} {vs : List AV}, oprs s l = some vs → Reps E vs (l.map a.eval)
  | [], vs, h => by obtain rfl := Option.some.inj h; exact ⟨rfl, by simp⟩
  | x :: r, vs, h => by
    unfold oprs at h
    split at h
    · rename_i v vs' hx hr
      obtain rfl := Option.some.inj h
      have ih := oprs_sound hT hr
      refine ⟨by simp [ih.1], fun j c v hc hv => ?_⟩
      cases j with
      | zero => simp at hc hv; subst hc hv; exact opr_sound hT hx
      | succ j => exact ih.2 j c v (by simpa using hc) (by simpa using hv)
    · exact absurd h (by simp)

/-- A list of witnesses. -/
theorem listOf {α β : Type} {Q : Nat → α → β → Prop} : ∀ (cs : List α) (_ : ∀ j c, cs[j]? = some c → ∃ y, Q j c y), ∃ cv : List β, cv.length = cs.length ∧ ∀ j c y, cs[j]? = some c → cv[j]? = some y → Q j c y
  | [], _ => ⟨[], rfl, by simp⟩
  | c :: r, h => by
    obtain ⟨y, hy⟩ := h 0 c rfl
    obtain ⟨cv, hl, hq⟩ := listOf (Q := fun j => Q (j + 1)) r (fun j c hc => h (j + 1) c (by simpa using hc))
    refine ⟨y :: cv, by simp [hl], fun j c' y' hc hy' => ?_⟩
    cases j with
    | zero => simp at hc hy'; subst hc hy'; exact hy
    | succ j => exact hq j c' y' (by simpa using hc) (by simpa using hy')

theorem cell_at {w : World} {b o : Nat} {c : Array Value} {t : TypeId} {f : Nat × Nat} (h : w.heap[b]? = some (.cells c t f)) : w.cell? ⟨b, o, none⟩ = c[o]? := by
  simp [World.cell?, h]

theorem behind_sound {E : Env} {base : Nat} {s : AS} {p : AV} {x : Value} {cs : List AV} {rd : List Nat} (hM : MemRel E base s.mem) (h : behind s p = some (cs, rd)) (hp : Rep E p x) :
    ∃ b o, x = .pointer (some ⟨b, o, none⟩) ∧ ∀ j c, cs[j]? = some c → ∃ y, E.w.cell? ⟨b, o + j, none⟩ = some y ∧ y.oneCell' = true ∧ Rep E c y := by
  unfold behind at h
  split at h
  · obtain ⟨rfl, -⟩ := Prod.mk.inj (Option.some.inj h)
    obtain ⟨b, o, rfl, _, hc⟩ := hp.ref_inv
    exact ⟨b, o, rfl, fun j c hj => by obtain ⟨y, h1, h2, h3⟩ := hc j c hj; exact ⟨y, h1, h2, .pure h3⟩⟩
  · rename_i id i j
    obtain ⟨ha, b, o, z, hl, rfl⟩ := hp.ptr_inv
    refine ⟨b, _, rfl, ?_⟩
    split at h
    · rename_i bs hg
      split at h
      · rename_i hi
        subst hi
        obtain ⟨rfl, -⟩ := Prod.mk.inj (Option.some.inj h)
        obtain ⟨b', c, t, hl', hb, _, _, hs, hc⟩ := (hM.arr id _ hg).2
        rw [hl] at hl'
        obtain ⟨rfl, rfl, rfl⟩ : b = b' ∧ o = 0 ∧ z = 0 := by simpa using hl'
        intro q a hq
        rw [List.getElem?_drop] at hq
        obtain ⟨y, h1, h2, h3⟩ := hc (j + q) a hq
        exact ⟨y, by rw [cell_at hb]; simpa using h1, h2, h3⟩
      · exact absurd h (by simp)
    · rename_i sz xs hg
      split at h
      · rename_i cs0 hx
        obtain ⟨rfl, -⟩ := Prod.mk.inj (Option.some.inj h)
        have hr := (hM.arr id _ hg).2
        simp only [ArrRel, hl] at hr
        obtain ⟨c, t, hb, _, _, _, hz, hc⟩ := hr
        subst hz
        intro q a hq
        rw [List.getElem?_drop] at hq
        obtain ⟨y, h1, h2, h3⟩ := (hc i cs0 hx).2 (j + q) a hq
        exact ⟨y, by rw [cell_at hb, Nat.add_assoc]; exact h1, h2, .pure h3⟩
      · exact absurd h (by simp)
    · rename_i sz xs hg
      split at h
      · rename_i cs0 hx
        obtain ⟨rfl, -⟩ := Prod.mk.inj (Option.some.inj h)
        have hr := (hM.arr id _ hg).2
        simp only [ArrRel, hl] at hr
        obtain ⟨c, t, hb, _, _, _, hz, hc⟩ := hr
        subst hz
        intro q a hq
        rw [List.getElem?_drop] at hq
        obtain ⟨y, h1, h2, h3⟩ := (hc i cs0 hx).2 (j + q) a hq
        exact ⟨y, by rw [cell_at hb, Nat.add_assoc]; exact h1, h2, .pure h3⟩
      · exact absurd h (by simp)
    · exact absurd h (by simp)
  · exact absurd h (by simp)

theorem addr_add (b o n : Nat) : (⟨b, o, none⟩ : Addr).add n = ⟨b, o + n, none⟩ := by
  unfold Addr.add; split <;> simp_all

theorem take_reps {E : Env} {cs : List AV} {cv : List Value} (h : Reps E cs cv) (n : Nat) : Reps E (cs.take n) (cv.take n) := by
  refine ⟨by simp [h.1], fun j c v hc hv => ?_⟩
  rw [List.getElem?_take] at hc hv
  split at hc
  · rename_i hj; simp only [hj, if_true] at hv; exact h.2 j c v hc hv
  · exact absurd hc (by simp)
theorem drop_reps {E : Env} {cs : List AV} {cv : List Value} (h : Reps E cs cv) (n : Nat) : Reps E (cs.drop n) (cv.drop n) := by
  refine ⟨by simp [h.1], fun j c v hc hv => ?_⟩
  rw [List.getElem?_drop] at hc hv
  exact h.2 _ c v hc hv

theorem loadVar_sound {E : Env} {P : Program} {t : TypeId} {z : Bool × Nat} {cs : List AV} {v : AV} {b o : Nat} (hz : tsz P t = some z) (hp : part z cs = some v)
    (hc : ∀ j c, cs[j]? = some c → ∃ y, E.w.cell? ⟨b, o + j, none⟩ = some y ∧ y.oneCell' = true ∧ Rep E c y) : ∃ x, (loadVar t ⟨b, o, none⟩).run P E.w = .ok x E.w ∧ Rep E v x := by
  obtain ⟨g, n⟩ := z
  obtain ⟨cv, hl, hq⟩ := listOf cs hc
  have hR : Reps E cs cv := ⟨hl, fun j c v h1 h2 => (hq j c v h1 h2).2.2⟩
  unfold loadVar
  simp only [Sem.run_bind, run_isAgg_tsz hz, Result.andThen_ok]
  cases g with
  | true =>
    simp only [part, if_true] at hp
    split at hp
    · rename_i hn
      obtain rfl := Option.some.inj hp
      have hl' : (cv.take n).length = n := by simp; omega
      have hrun : (loadCells ⟨b, o, none⟩ n).run P E.w = .ok (cv.take n).toArray E.w := by
        have := run_loadCells_list (P := P) (w := E.w) ⟨b, o, none⟩ (cv.take n) (fun j v hv => by
          rw [addr_add]
          rw [List.getElem?_take] at hv
          split at hv
          · rename_i hj
            obtain ⟨c, hc'⟩ : ∃ c, cs[j]? = some c := ⟨_, List.getElem?_eq_getElem (by omega)⟩
            exact (hq j c v hc' hv).1
          · exact absurd hv (by simp))
        rwa [hl'] at this
      refine ⟨.agg (cv.take n).toArray, by simp [run_sizeOf_tsz hz, hrun], ?_⟩
      have ht := take_reps hR n
      exact .agg _ _ ht.1 (fun v hv => by
        obtain ⟨j, hj⟩ := List.getElem?_of_mem (List.mem_of_mem_take hv)
        obtain ⟨c, hc'⟩ : ∃ c, cs[j]? = some c := ⟨_, List.getElem?_eq_getElem (by have := (List.getElem?_eq_some_iff.1 hj).1; omega)⟩
        exact (hq j c v hc' hj).2.1) ht.2
    · exact absurd hp (by simp)
  | false =>
    simp only [part, Bool.false_eq_true, if_false] at hp
    cases cs with
    | nil => exact absurd hp (by simp)
    | cons c r =>
      obtain rfl := Option.some.inj hp
      obtain ⟨y, h1, h2, h3⟩ := hc 0 c rfl
      exact ⟨y, by simpa using by rw [Nat.add_zero] at h1; simp [h1], h3⟩

theorem load_sound {E : Env} {P : Program} {w0 : World} {okb : Nat → Prop} {s : AS} {t : TypeId} {p : AV} {x : Value} {r : Res} (hF : Frm E w0 okb) (hM : MemRel E w0.heap.size s.mem)
    (hp : Rep E p x) (h : loadE P s t p = some r) : ∃ y, (Instr.loadAt t x).run P E.w = .ok y E.w ∧ Stepped E w0 okb s.mem s.nx r y E := by
  unfold loadE at h
  split at h
  · rename_i z cs rd hz hb
    split at h
    · rename_i v hv
      obtain rfl := Option.some.inj h
      obtain ⟨b, o, rfl, hc⟩ := behind_sound hM hb hp
      obtain ⟨y, hy, hr⟩ := loadVar_sound hz hv hc
      exact ⟨y, by simp [Instr.loadAt, Instr.sureAddr, hy], .same hF hM hr⟩
    · exact absurd h (by simp)
  · exact absurd h (by simp)
end Go.Ab
