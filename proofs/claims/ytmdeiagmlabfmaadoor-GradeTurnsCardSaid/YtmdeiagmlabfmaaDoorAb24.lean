/- The abstract interpreter: what an operation looks at. -/
import Derived.Test.YtmdeiagmlabfmaaDoorAb22
set_option linter.unusedVariables false
set_option linter.unusedSimpArgs false
set_option linter.unusedSectionVars false

section
namespace Go.Ab
open Go.RowKit (Below)

theorem get_append {α : Type} (x y : List (Nat × α)) (i : Nat) : get (x ++ y) i = match get x i with | some v => some v | none => get y i := by
  induction x with
  | nil => rfl
  | cons p x ih =>
    obtain ⟨u, v⟩ := p
    simp only [List.cons_append, get_cons]
    split
    · rfl
    · exact ih
theorem get_append_congr {α : Type} {x y y' : List (Nat × α)} {i : Nat} (h : get y' i = get y i) : get (x ++ y') i = get (x ++ y) i := by
  rw [get_append, get_append, h]

theorem oprs_foot {s s' : AS} : ∀ {l : List Operand} {vs : List AV}, (∀ x, x ∈ l → opr s' x = opr s x) → oprs s l = some vs → oprs s' l = some vs
  | [], _, _, h => h
  | x :: r, vs, hx, h => by
    unfold oprs at h ⊢
    rw [hx x List.mem_cons_self]
    split at h
    · rename_i v vs' h1 h2
      rw [h1, oprs_foot (fun y hy => hx y (List.mem_cons_of_mem _ hy)) h2]
      exact h
    · exact absurd h (by simp)
theorem oprs2_foot {s s' : AS} : ∀ {l : List (Nat × Operand)} {vs : List (Nat × AV)}, (∀ x, x ∈ l.map (·.2) → opr s' x = opr s x) → oprs2 s l = some vs → oprs2 s' l = some vs
  | [], _, _, h => h
  | (i, x) :: r, vs, hx, h => by
    unfold oprs2 at h ⊢
    rw [hx x (by simp)]
    split at h
    · rename_i v vs' h1 h2
      rw [h1, oprs2_foot (fun y hy => hx y (by simp only [List.map_cons, List.mem_cons]; exact .inr hy)) h2]
      exact h
    · exact absurd h (by simp)

theorem pureCell_foot {mem mem' : List (Nat × Arr)} {c : AV} {x : AV × List (Nat × Arr) × List Nat} (h : pureCell mem c = some x) (hm : ∀ id, id ∈ x.2.2 → get mem' id = get mem id) : pureCell mem' c = some x := by
  unfold pureCell at h ⊢
  split at h
  · rename_i id off len
    have key : get mem' id = get mem id := by
      split at h
      · split at h
        · obtain rfl := Option.some.inj h; exact hm id (by simp)
        · exact absurd h (by simp)
      · split at h
        · obtain rfl := Option.some.inj h; exact hm id (by simp)
        · exact absurd h (by simp)
      · exact absurd h (by simp)
    simp only [key]
    exact h
  all_goals exact h

theorem pureCells_foot : ∀ {cs : List AV} {mem mem' : List (Nat × Arr)} {x : List AV × List (Nat × Arr) × List Nat}, pureCells mem cs = some x → (∀ id, id ∈ x.2.2 → get mem' id = get mem id) → pureCells mem' cs = some x
  | [], _, _, _, h, _ => h
  | c :: r, mem, mem', x, h, hm => by
    unfold pureCells at h ⊢
    split at h
    · rename_i c' d rd h1
      split at h
      · rename_i r' d' rd' h2
        obtain rfl := Option.some.inj h
        rw [pureCell_foot h1 (fun id hi => hm id (by simp at hi ⊢; exact .inl hi))]
        simp only
        rw [pureCells_foot h2 (fun id hi => get_append_congr (hm id (by simp at hi ⊢; exact .inr hi)))]
      · exact absurd h (by simp)
    · exact absurd h (by simp)

theorem pureRows_foot : ∀ {cs : List (List AV)} {mem mem' : List (Nat × Arr)} {x : List (List AV) × List (Nat × Arr) × List Nat}, pureRows mem cs = some x → (∀ id, id ∈ x.2.2 → get mem' id = get mem id) → pureRows mem' cs = some x
  | [], _, _, _, h, _ => h
  | c :: r, mem, mem', x, h, hm => by
    unfold pureRows at h ⊢
    split at h
    · rename_i c' d rd h1
      split at h
      · rename_i r' d' rd' h2
        obtain rfl := Option.some.inj h
        rw [pureCells_foot h1 (fun id hi => hm id (by simp at hi ⊢; exact .inl hi))]
        simp only
        rw [pureRows_foot h2 (fun id hi => get_append_congr (hm id (by simp at hi ⊢; exact .inr hi)))]
      · exact absurd h (by simp)
    · exact absurd h (by simp)

theorem behind_foot {s s' : AS} {p : AV} {x : List AV × List Nat} (h : behind s p = some x) (hm : ∀ id, id ∈ x.2 → get s'.mem id = get s.mem id) : behind s' p = some x := by
  unfold behind at h ⊢
  split at h
  · exact h
  · rename_i id i j
    have key : get s'.mem id = get s.mem id := by
      split at h
      · split at h
        · obtain rfl := Option.some.inj h; exact hm id (by simp)
        · exact absurd h (by simp)
      · split at h
        · obtain rfl := Option.some.inj h; exact hm id (by simp)
        · exact absurd h (by simp)
      · split at h
        · obtain rfl := Option.some.inj h; exact hm id (by simp)
        · exact absurd h (by simp)
      · exact absurd h (by simp)
    simp only [key]
    exact h
  · exact absurd h (by simp)

theorem source_foot {s s' : AS} {n : Nat} {p : AV} {x : List (List AV) × List Nat} (h : source s n p = some x) (hm : ∀ id, id ∈ x.2 → get s'.mem id = get s.mem id) : source s' n p = some x := by
  unfold source at h ⊢
  split at h
  · exact h
  · exact h
  · rename_i id off len
    have key : get s'.mem id = get s.mem id := by
      split at h
      · split at h
        · obtain rfl := Option.some.inj h; exact hm id (by simp)
        · exact absurd h (by simp)
      · split at h
        · obtain rfl := Option.some.inj h; exact hm id (by simp)
        · exact absurd h (by simp)
      · exact absurd h (by simp)
    simp only [key]
    exact h
  · exact h
  · exact absurd h (by simp)

theorem loadE_foot {P : Program} {s s' : AS} {t : TypeId} {p : AV} {r : Res} (h : loadE P s t p = some r) (hn : s'.nx = s.nx) (hm : ∀ id, id ∈ r.rd → get s'.mem id = get s.mem id) : loadE P s' t p = some r := by
  unfold loadE at h ⊢
  split at h
  · rename_i a cs rd h1 h2
    split at h
    · rename_i v hv
      obtain rfl := Option.some.inj h
      rw [h1, behind_foot h2 (fun id hi => hm id hi)]
      simp only [hv, hn]
    · exact absurd h (by simp)
  · exact absurd h (by simp)

theorem storeE_foot {P : Program} {s s' : AS} {t : TypeId} {p v : AV} {r : Res} (h : storeE P s t p v = some r) (hn : s'.nx = s.nx) (hm : ∀ id, id ∈ r.rd → get s'.mem id = get s.mem id) : storeE P s' t p v = some r := by
  unfold storeE at h ⊢
  split at h
  · rename_i z n vs id i j h1 h2
    try rw [h1, h2]
    try simp only
    split at h
    · rename_i hl
      rw [if_pos hl]
      split at h
      · rename_i cs hg
        split at h
        · rename_i hi
          split at h
          · rename_i cs' hc
            obtain rfl := Option.some.inj h
            rw [hm id (by simp), hg]
            simp only [hi, if_true, hc, hn]
          · exact absurd h (by simp)
        · exact absurd h (by simp)
      · rename_i sz xs hg
        split at h
        · rename_i vs' d rd cs h3 h4
          split at h
          · rename_i hd
            split at h
            · rename_i cs' hc
              obtain rfl := Option.some.inj h
              rw [hm id (by simp), hg]
              simp only [pureCells_foot h3 (fun id hi => hm id (by simp at hi ⊢; exact .inr hi)), h4, hd, if_true, hc, hn]
            · exact absurd h (by simp)
          · exact absurd h (by simp)
        · exact absurd h (by simp)
      · exact absurd h (by simp)
    · exact absurd h (by simp)
  · exact absurd h (by simp)

theorem buildSliceE_foot {P : Program} {s s' : AS} {t : TypeId} {len : Nat} {ps : List (Nat × AV)} {r : Res} (h : buildSliceE P s t len ps = some r) (hn : s'.nx = s.nx) (hm : ∀ id, id ∈ r.rd → get s'.mem id = get s.mem id) : buildSliceE P s' t len ps = some r := by
  unfold buildSliceE at h ⊢
  split at h
  · rename_i e he
    try simp only [he]
    split at h
    · rename_i g n z h1 h2
      try simp only [h1, h2]
      split at h
      · rename_i hc
        rw [if_pos hc]
        split at h
        · rename_i xs hx
          try simp only [hx]
          split at h
          · rename_i xs' d rd hp
            obtain rfl := Option.some.inj h
            rw [pureRows_foot hp (fun id hi => hm id hi)]
            simp only [hn]
          · exact absurd h (by simp)
        · exact absurd h (by simp)
      · exact absurd h (by simp)
    · exact absurd h (by simp)
  · exact absurd h (by simp)

theorem sliceE_foot {P : Program} {s s' : AS} {t : TypeId} {x : AV} {lo hi : Option AV} {r : Res} (h : sliceE P s t x lo hi = some r) (hn : s'.nx = s.nx) (hm : ∀ id, id ∈ r.rd → get s'.mem id = get s.mem id) : sliceE P s' t x lo hi = some r := by
  unfold sliceE at h ⊢
  rw [hn]
  split at h
  · exact h
  · exact h
  · rename_i id off len
    have key : get s'.mem id = get s.mem id := by
      split at h
      · split at h
        · obtain rfl := Option.some.inj h; exact hm id (by simp)
        · exact absurd h (by simp)
      · split at h
        · obtain rfl := Option.some.inj h; exact hm id (by simp)
        · exact absurd h (by simp)
      · exact absurd h (by simp)
    simp only [key]
    exact h
  · exact absurd h (by simp)

theorem indexSlE_foot {P : Program} {s s' : AS} {t : TypeId} {x i : AV} {r : Res} (h : indexSlE P s t x i = some r) (hn : s'.nx = s.nx) (hm : ∀ id, id ∈ r.rd → get s'.mem id = get s.mem id) : indexSlE P s' t x i = some r := by
  unfold indexSlE at h ⊢
  rw [hn]
  split at h
  · rename_i k i z n hz
    try simp only [hz]
    split at h
    · exact h
    · rename_i id off len
      have key : get s'.mem id = get s.mem id := by
        split at h
        · split at h
          · obtain rfl := Option.some.inj h; exact hm id (by simp)
          · exact absurd h (by simp)
        · split at h
          · obtain rfl := Option.some.inj h; exact hm id (by simp)
          · exact absurd h (by simp)
        · exact absurd h (by simp)
      simp only [key]
      exact h
    · exact absurd h (by simp)
  · exact absurd h (by simp)

theorem indexAddrE_foot {P : Program} {s s' : AS} {t : TypeId} {x i : AV} {r : Res} (h : indexAddrE P s t x i = some r) (hn : s'.nx = s.nx) (hm : ∀ id, id ∈ r.rd → get s'.mem id = get s.mem id) : indexAddrE P s' t x i = some r := by
  unfold indexAddrE at h ⊢
  split at h
  · rename_i n e ht
    unfold arrAddrE at h ⊢
    try simp only [ht]
    rw [hn]
    exact h
  · rename_i ht
    try simp only [ht]
    exact indexSlE_foot h hn hm

theorem appendE_foot {P : Program} {s s' : AS} {t : TypeId} {x y : AV} {ok : Bool} {r : Res} (h : appendE P s t x y ok = some r) (hn : s'.nx = s.nx) (hm : ∀ id, id ∈ r.rd → get s'.mem id = get s.mem id) : appendE P s' t x y ok = some r := by
  unfold appendE at h ⊢
  rw [hn]
  split at h
  · rename_i e he
    try simp only [he]
    split at h
    · rename_i g n b z h1 h2 h3
      try simp only [h1, h2, h3]
      split at h
      · rename_i es rd hs
        split at h
        · rename_i hc
          split at h
          · split at h
            · rename_i hl
              obtain rfl := Option.some.inj h
              rw [source_foot hs (fun id hi => hm id hi)]
              simp only [hc, and_self, if_true, hl]
            · exact absurd h (by simp)
          · rename_i id off len
            split at h
            · rename_i sz xs hg
              split at h
              · rename_i hl
                obtain rfl := Option.some.inj h
                rw [source_foot hs (fun id hi => hm id (by simp at hi ⊢; exact .inr hi))]
                simp only
                rw [hm id (by simp), hg]
                simp only
                rw [if_pos hc, if_pos hl]
              · exact absurd h (by simp)
            · exact absurd h (by simp)
          · exact absurd h (by simp)
        · exact absurd h (by simp)
      · exact absurd h (by simp)
    · exact absurd h (by simp)
  · exact absurd h (by simp)

theorem copyE_foot {P : Program} {s s' : AS} {t : TypeId} {x y : AV} {r : Res} (h : copyE P s t x y = some r) (hn : s'.nx = s.nx) (hm : ∀ id, id ∈ r.rd → get s'.mem id = get s.mem id) : copyE P s' t x y = some r := by
  unfold copyE at h ⊢
  rw [hn]
  split at h
  · rename_i g n id off len hz
    try simp only [hz]
    split at h
    · rename_i sz xs es rd hg hs
      split at h
      · rename_i hc
        obtain rfl := Option.some.inj h
        rw [source_foot hs (fun id hi => hm id (by simp at hi ⊢; exact .inr hi)), hm id (by simp), hg]
        simp only
        rw [if_pos hc]
      · exact absurd h (by simp)
    · exact absurd h (by simp)
  · exact absurd h (by simp)

theorem builtinE_foot {P : Program} {s s' : AS} {b : Builtin} {ts : List TypeId} {xs : List AV} {r : Res} (h : builtinE P s b ts xs = some r) (hn : s'.nx = s.nx) (hm : ∀ id, id ∈ r.rd → get s'.mem id = get s.mem id) : builtinE P s' b ts xs = some r := by
  unfold builtinE at h ⊢
  split at h
  · unfold lenE at h ⊢; rw [hn]; exact h
  · exact appendE_foot h hn hm
  · exact copyE_foot h hn hm
  · rw [hn]; exact h
  · rw [hn]; exact h
  · exact absurd h (by simp)

theorem ev_foot {P : Program} {s s' : AS} {o : Oper} {r : Res} (h : ev P o s = some r) (hn : s'.nx = s.nx) (ho : ∀ x, x ∈ o.op.operands.toList → opr s' x = opr s x)
    (hm : ∀ id, id ∈ r.rd → get s'.mem id = get s.mem id) : ev P o s' = some r := by
  obtain ⟨dst, op, type, pos, after, guard⟩ := o
  unfold ev at h ⊢
  simp only at h ho ⊢
  split at h
  · rw [ho _ (by simp [Op.operands]), hn]; exact h
  · rw [ho _ (by simp [Op.operands]), hn]; exact h
  · rw [ho _ (by simp [Op.operands]), ho _ (by simp [Op.operands]), ho _ (by simp [Op.operands]), hn]; exact h
  · unfold allocE at h ⊢; rw [hn]; exact h
  · rw [ho _ (by simp [Op.operands])]; unfold boxE at h ⊢; rw [hn]; exact h
  · rename_i t ps
    split at h
    · rename_i vs hv
      rw [oprs2_foot (fun x hx => ho x (by simpa [Op.operands] using hx)) hv]
      unfold buildE at h ⊢; rw [hn]; exact h
    · exact absurd h (by simp)
  · rename_i t n ps
    split at h
    · rename_i vs hv
      rw [oprs2_foot (fun x hx => ho x (by simpa [Op.operands] using hx)) hv]
      exact buildSliceE_foot h hn hm
    · exact absurd h (by simp)
  · rw [ho _ (by simp [Op.operands])]
    split at h
    · exact loadE_foot h hn hm
    · exact absurd h (by simp)
  · rw [ho _ (by simp [Op.operands]), ho _ (by simp [Op.operands])]
    split at h
    · exact storeE_foot h hn hm
    · exact absurd h (by simp)
  · rw [ho _ (by simp [Op.operands]), hn]; exact h
  · rw [ho _ (by simp [Op.operands]), ho _ (by simp [Op.operands]), hn]; exact h
  · rw [ho _ (by simp [Op.operands]), hn]; exact h
  · rw [ho _ (by simp [Op.operands])]; unfold convE at h ⊢; rw [hn]; exact h
  · rename_i f a b
    split at h
    · rename_i va vb h1 h2
      rw [oprs_foot (fun x hx => ho x (by simp only [Op.operands, Array.toList_append, List.mem_append]; exact .inl hx)) h1, oprs_foot (fun x hx => ho x (by simp only [Op.operands, Array.toList_append, List.mem_append]; exact .inr hx)) h2, hn]
      exact h
    · exact absurd h (by simp)
  · rw [ho _ (by simp [Op.operands]), ho _ (by simp [Op.operands])]; unfold makeSliceE at h ⊢; rw [hn]; exact h
  · rw [ho _ (by simp [Op.operands])]
    split at h
    · exact sliceE_foot h hn hm
    · exact absurd h (by simp)
  · rw [ho _ (by simp [Op.operands]), ho _ (by simp [Op.operands])]
    split at h
    · exact sliceE_foot h hn hm
    · exact absurd h (by simp)
  · rw [ho _ (by simp [Op.operands]), ho _ (by simp [Op.operands])]
    split at h
    · exact sliceE_foot h hn hm
    · exact absurd h (by simp)
  · rw [ho _ (by simp [Op.operands]), ho _ (by simp [Op.operands]), ho _ (by simp [Op.operands])]
    split at h
    · exact sliceE_foot h hn hm
    · exact absurd h (by simp)
  · rw [ho _ (by simp [Op.operands])]; unfold fieldAddrE at h ⊢; rw [hn]; exact h
  · rw [ho _ (by simp [Op.operands])]; unfold fieldE at h ⊢; rw [hn]; exact h
  · rw [ho _ (by simp [Op.operands]), ho _ (by simp [Op.operands])]
    split at h
    · exact indexAddrE_foot h hn hm
    · exact absurd h (by simp)
  · rw [ho _ (by simp [Op.operands]), ho _ (by simp [Op.operands])]; unfold indexE at h ⊢; rw [hn]; exact h
  · rw [ho _ (by simp [Op.operands]), hn]; exact h
  · rename_i c
    split at h
    · rename_i b hb
      try simp only [hb]
      split at h
      · rename_i vs hv
        rw [oprs_foot (fun x hx => ho x (by simp [Op.operands, Call.operands, hb]; simpa using hx)) hv]
        exact builtinE_foot h hn hm
      · exact absurd h (by simp)
    · exact absurd h (by simp)
  · exact absurd h (by simp)
end Go.Ab
end

section
namespace Go.Ab
open Go.RowKit (Below)

/-! What a call looks at. -/
theorem ArgTo.mono {mem mem' : List (Nat × Arr)} (hm : ∀ id arr, get mem id = some arr → get mem' id = some arr) {a a' : AV} (h : ArgTo mem a a') : ArgTo mem' a a' := by
  induction h with
  | same h => exact .same h
  | nil sz => exact .nil sz
  | row hg hl => exact .row (hm _ _ hg) hl
  | frz hg hl => exact .frz (hm _ _ hg) hl
  | empty hg => exact .empty (hm _ _ hg)
  | box hg hl _ ih => exact .box (hm _ _ hg) hl ih
  | fn hx hy _ _ ih1 ih2 => exact .fn hx hy ih1 ih2
  | agg hx _ ih => exact .agg hx ih
theorem ArgTo.mono' {mem mem' : List (Nat × Arr)} {a a' : AV} (h : ArgTo mem a a') (ho : owns a = false) : ArgTo mem' a a' := by
  cases h with
  | same h => exact .same h
  | nil sz => exact .nil sz
  | row _ _ => cases ho
  | frz _ _ => cases ho
  | empty _ => cases ho
  | box _ _ _ => cases ho
  | fn _ _ _ _ => cases ho
  | agg _ _ => cases ho
theorem ArgsTo.mono {mem mem' : List (Nat × Arr)} : ∀ {as as' : List AV}, (as.any owns = true → ∀ id arr, get mem id = some arr → get mem' id = some arr) → ArgsTo mem as as' → ArgsTo mem' as as'
  | [], [], _, _ => trivial
  | a :: r, a' :: r', hm, h => by
    refine ⟨?_, ArgsTo.mono (fun hr => hm (by simp [hr])) h.2⟩
    cases ho : owns a with
    | true => exact h.1.mono (hm (by simp [ho]))
    | false => exact h.1.mono' ho
  | [], _ :: _, _, h => h.elim
  | _ :: _, [], _, h => h.elim
theorem frzC_mono {mem mem' : List (Nat × Arr)} : ∀ {as : List AV} {z : List (Nat × Arr)}, (as.any owns = true → ∀ id arr, get mem id = some arr → get mem' id = some arr) → frzC mem as = some z → frzC mem' as = some z
  | [], _, _, h => h
  | a :: r, z, hm, h => by
    have hr : (r.any owns = true → ∀ id arr, get mem id = some arr → get mem' id = some arr) := fun q => hm (by simp [q])
    cases a with
    | own id off len =>
      have hm' := hm (by simp [owns])
      unfold frzC at h ⊢
      split at h
      · rename_i sz xs d hg hd
        rw [hm' _ _ hg, frzC_mono hr hd]; exact h
      · rename_i sz xs d hg hd
        rw [hm' _ _ hg, frzC_mono hr hd]; exact h
      · exact absurd h (by simp)
    | agg _ => simp only [frzC, owns, if_true] at h; exact absurd h (by simp)
    | ptr _ _ _ => simp only [frzC, owns, if_true] at h; exact absurd h (by simp)
    | fn _ _ _ => simp only [frzC, owns, if_true] at h; exact absurd h (by simp)
    | tup _ => simp only [frzC, owns, if_true] at h; exact absurd h (by simp)
    | jk => simp only [frzC, owns] at h ⊢; exact frzC_mono hr (by simpa using h)
    | sc _ => simp only [frzC, owns] at h ⊢; exact frzC_mono hr (by simpa using h)
    | nil => simp only [frzC, owns] at h ⊢; exact frzC_mono hr (by simpa using h)
    | sl _ _ => simp only [frzC, owns] at h ⊢; exact frzC_mono hr (by simpa using h)
    | fr _ _ => simp only [frzC, owns] at h ⊢; exact frzC_mono hr (by simpa using h)
    | ref _ => simp only [frzC, owns] at h ⊢; exact frzC_mono hr (by simpa using h)

theorem flatA_owns : ∀ {as : List AV}, (flatA as).any owns = true → as.any owns = true
  | [], h => h
  | a :: r, h => by
    cases a with
    | agg cs => simp [owns]
    | _ =>
      simp only [flatA, List.any_cons, Bool.or_eq_true] at h ⊢
      exact h.imp id flatA_owns
theorem frzOf_mono {mem mem' : List (Nat × Arr)} {as : List AV} {z : List (Nat × Arr)} (hm : as.any owns = true → ∀ id arr, get mem id = some arr → get mem' id = some arr) (h : frzOf mem as = some z) : frzOf mem' as = some z :=
  frzC_mono (fun h => hm (flatA_owns h)) h

theorem get_mem_keys {α : Type} {m : List (Nat × α)} {i : Nat} {a : α} (h : get m i = some a) : i ∈ m.map (·.1) := by
  induction m with
  | nil => cases h
  | cons p m ih =>
    obtain ⟨u, v⟩ := p
    rw [get_cons] at h
    split at h
    · rename_i e; simp [e]
    · simp [List.mem_cons]; right; simpa using ih h

theorem call_foot {R : CallRel} {s s' : AS} {g : FuncId} {as : List AV} {r : Res} (h : CallYields R s g as r) (hn : s'.nx = s.nx) (hm : ∀ id, id ∈ r.rd → get s'.mem id = get s.mem id) : ∃ rd, CallYields R s' g as { r with rd := rd } := by
  rcases h with ⟨as', v, h1, h2, h3⟩ | ⟨id, off, len, sz, xs, ys, h1, h2, h3, h4, h5, rfl⟩
  case inr => exact ⟨[id], .inr ⟨id, off, len, sz, xs, ys, h1, (hm id (by simp [mutRes])).trans h2, h3, h4, h5, by simp only [mutRes, hn]⟩⟩
  have hrd : r.rd = if as.any owns then s.mem.map (·.1) else [] := by
    rcases h3 with ⟨_, rfl⟩ | ⟨_, _, _, rfl⟩ <;> rfl
  have hm' : as.any owns = true → ∀ id arr, get s.mem id = some arr → get s'.mem id = some arr := by
    intro ho id arr hg
    rw [hm id (by rw [hrd, if_pos ho]; exact get_mem_keys hg), hg]
  refine ⟨if as.any owns then s'.mem.map (·.1) else [], .inl ⟨as', v, h1.mono hm', h2, ?_⟩⟩
  rcases h3 with ⟨q, rfl⟩ | ⟨z, hz, q, rfl⟩
  · exact .inl ⟨q, by simp [hn]⟩
  · exact .inr ⟨z, frzOf_mono hm' hz, q, by simp [hn]⟩

theorem callee_foot {s s' : AS} {c : Call} {x : FuncId × List AV} (h : callee s c = some x) (ho : ∀ y, y ∈ c.operands.toList → opr s' y = opr s y) : callee s' c = some x := by
  obtain ⟨cl, args, ts⟩ := c
  cases cl with
  | value f =>
    unfold callee at h ⊢
    simp only at h ⊢
    split at h
    · rename_i g first cap as h1 h2
      rw [ho f (by simp [Call.operands]), h1, oprs_foot (fun y hy => ho y (by simp [Call.operands]; right; simpa using hy)) h2]
      exact h
    · exact absurd h (by simp)
  | _ => exact absurd h (by simp [callee])

theorem yields_foot {P : Program} {R : CallRel} {s s' : AS} {o : Oper} {r : Res} (h : AYields P R o s r) (hn : s'.nx = s.nx) (ho : ∀ x, x ∈ o.op.operands.toList → opr s' x = opr s x)
    (hm : ∀ id, id ∈ r.rd → get s'.mem id = get s.mem id) : ∃ rd, AYields P R o s' { r with rd := rd } := by
  unfold AYields at h ⊢
  split at h
  · rename_i f args ts hop
    obtain ⟨x, hx, hy⟩ := h
    obtain ⟨rd, hy'⟩ := call_foot hy hn hm
    exact ⟨rd, x, callee_foot hx (fun y hy => ho y (by rw [hop]; exact hy)), hy'⟩
  · exact ⟨r.rd, ev_foot h hn ho hm⟩

/-! Numbers only grow. -/
theorem imp_le (n : Nat) (a : AV) : n ≤ (imp n a).2.2 := by
  cases a <;> first | exact imp1_le n _ | exact imps_le _ n
theorem call_nx {R : CallRel} {s : AS} {g : FuncId} {as : List AV} {r : Res} (h : CallYields R s g as r) : s.nx ≤ r.nx := by
  rcases h with ⟨as', v, h1, h2, ⟨_, rfl⟩ | ⟨z, hz, q, rfl⟩⟩ | ⟨id, off, len, sz, xs, ys, _, _, _, _, _, rfl⟩
  · exact Nat.le_refl _
  · exact imp_le _ _
  · exact Nat.le_refl _

theorem storeE_nx {P : Program} {s : AS} {t : TypeId} {p v : AV} {r : Res} (h : storeE P s t p v = some r) : s.nx ≤ r.nx := by
  unfold storeE at h
  repeat' split at h
  all_goals first | (obtain rfl := Option.some.inj h; exact Nat.le_refl _) | exact absurd h (by simp)
theorem buildSliceE_nx {P : Program} {s : AS} {t : TypeId} {len : Nat} {ps : List (Nat × AV)} {r : Res} (h : buildSliceE P s t len ps = some r) : s.nx ≤ r.nx := by
  unfold buildSliceE at h
  repeat' split at h
  all_goals first | (obtain rfl := Option.some.inj h; exact Nat.le_succ _) | exact absurd h (by simp)
theorem makeSliceE_nx {P : Program} {s : AS} {t : TypeId} {l c : AV} {r : Res} (h : makeSliceE P s t l c = some r) : s.nx ≤ r.nx := by
  unfold makeSliceE at h
  repeat' split at h
  all_goals first | (obtain rfl := Option.some.inj h; exact Nat.le_succ _) | exact absurd h (by simp)
theorem sliceE_nx {P : Program} {s : AS} {t : TypeId} {x : AV} {lo hi : Option AV} {r : Res} (h : sliceE P s t x lo hi = some r) : s.nx ≤ r.nx := by
  unfold sliceE at h
  repeat' split at h
  all_goals first | (obtain rfl := Option.some.inj h; exact Nat.le_refl _) | exact absurd h (by simp)
theorem indexAddrE_nx {P : Program} {s : AS} {t : TypeId} {x i : AV} {r : Res} (h : indexAddrE P s t x i = some r) : s.nx ≤ r.nx := by
  unfold indexAddrE indexSlE arrAddrE at h
  repeat' split at h
  all_goals first | (obtain rfl := Option.some.inj h; exact Nat.le_refl _) | exact absurd h (by simp)
theorem builtinE_nx {P : Program} {s : AS} {b : Builtin} {ts : List TypeId} {xs : List AV} {r : Res} (h : builtinE P s b ts xs = some r) : s.nx ≤ r.nx := by
  unfold builtinE at h
  split at h
  · unfold lenE at h
    repeat' split at h
    all_goals first | (obtain rfl := Option.some.inj h; exact Nat.le_refl _) | exact absurd h (by simp)
  · unfold appendE at h
    repeat' split at h
    all_goals first | (obtain rfl := Option.some.inj h; exact Nat.le_succ _) | exact absurd h (by simp)
  · unfold copyE at h
    repeat' split at h
    all_goals first | (obtain rfl := Option.some.inj h; exact Nat.le_refl _) | exact absurd h (by simp)
  · obtain ⟨m, _, rfl⟩ := Option.map_eq_some_iff.1 h; exact Nat.le_refl _
  · obtain ⟨m, _, rfl⟩ := Option.map_eq_some_iff.1 h; exact Nat.le_refl _
  · exact absurd h (by simp)
theorem ev_nx {P : Program} {o : Oper} {s : AS} {r : Res} (h : ev P o s = some r) : s.nx ≤ r.nx := by
  unfold ev at h
  split at h
  all_goals try (repeat' split at h)
  all_goals first
    | exact storeE_nx h
    | exact buildSliceE_nx h
    | exact makeSliceE_nx h
    | exact sliceE_nx h
    | exact indexAddrE_nx h
    | exact builtinE_nx h
    | (obtain rfl := Option.some.inj h; exact Nat.le_refl _)
    | (exfalso; simp at h; done)
    | (unfold allocE at h; (repeat' split at h); all_goals first | (obtain rfl := Option.some.inj h; exact Nat.le_succ _) | exact absurd h (by simp))
    | (unfold boxE at h; (repeat' split at h); all_goals first | (obtain rfl := Option.some.inj h; exact Nat.le_succ _) | exact absurd h (by simp))
    | (unfold buildE at h; (repeat' split at h); all_goals first | (obtain rfl := Option.some.inj h; exact Nat.le_refl _) | exact absurd h (by simp))
    | (unfold loadE at h; (repeat' split at h); all_goals first | (obtain rfl := Option.some.inj h; exact Nat.le_refl _) | exact absurd h (by simp))
    | (unfold convE at h; (repeat' split at h); all_goals first | (obtain rfl := Option.some.inj h; exact Nat.le_refl _) | exact absurd h (by simp))
    | (unfold fieldAddrE at h; (repeat' split at h); all_goals first | (obtain rfl := Option.some.inj h; exact Nat.le_refl _) | exact absurd h (by simp))
    | (unfold fieldE at h; (repeat' split at h); all_goals first | (obtain rfl := Option.some.inj h; exact Nat.le_refl _) | exact absurd h (by simp))
    | (unfold indexE at h; (repeat' split at h); all_goals first | (obtain rfl := Option.some.inj h; exact Nat.le_refl _) | exact absurd h (by simp))
theorem yields_nx {P : Program} {R : CallRel} {s : AS} {o : Oper} {r : Res} (h : AYields P R o s r) : s.nx ≤ r.nx := by
  unfold AYields at h
  split at h
  · obtain ⟨x, _, hy⟩ := h; exact call_nx hy
  · exact ev_nx h

/-! One step of a region. -/
def StepC (P : Program) (R : CallRel) (ops : Array Oper) (o : Oper) (s : AS) (x : Option Res) : Prop :=
  match o.guard, x with
  | none, some r => AYields P R o s r
  | some (j, want), some r => guardVal ops s j = some (some want) ∧ AYields P R o s r
  | some (j, want), none => ∃ b, guardVal ops s j = some b ∧ (b == some want) = false
  | none, none => False
def stp (o : Oper) (x : Option Res) (s : AS) : AS :=
  match x with
  | some r => s.put o.dst r
  | none => s.junk o.dst
def logOf : Option Res → List Nat × List Nat
  | some r => (r.rd, r.d.map (·.1))
  | none => ([], [])
def nxOf (s : AS) : Option Res → Nat
  | some r => r.nx
  | none => s.nx

theorem StepC.nx {P : Program} {R : CallRel} {ops : Array Oper} {o : Oper} {s : AS} {x : Option Res} (h : StepC P R ops o s x) : s.nx ≤ nxOf s x := by
  unfold StepC at h
  split at h
  · exact yields_nx h
  · exact yields_nx h.2
  · exact Nat.le_refl _
  · exact h.elim

def Trace (P : Program) (R : CallRel) (ops : Array Oper) : List Oper → AS → List (Option Res) → AS → Prop
  | [], s, xs, s' => xs = [] ∧ s' = s
  | o :: rest, s, xs, s' => ∃ x xs', xs = x :: xs' ∧ StepC P R ops o s x ∧ Trace P R ops rest (stp o x s) xs' s'

theorem awops_trace {P : Program} {R : CallRel} {ops : Array Oper} {K : AS → Log → Prop} : ∀ {l : List Oper} {s : AS} {lg : Log}, awops P R ops l s lg K →
    ∃ xs s', Trace P R ops l s xs s' ∧ K s' ((xs.map logOf).reverse ++ lg)
  | [], s, lg, h => ⟨[], s, ⟨rfl, rfl⟩, by simpa using h⟩
  | o :: rest, s, lg, h => by
    have done : ∀ (x : Option Res) (b : Log), StepC P R ops o s x → b = logOf x :: lg → awops P R ops rest (stp o x s) b K → ∃ xs s', Trace P R ops (o :: rest) s xs s' ∧ K s' ((xs.map logOf).reverse ++ lg) := by
      rintro x b hs rfl h
      obtain ⟨xs, s', ht, hk⟩ := awops_trace h
      exact ⟨x :: xs, s', ⟨x, xs, rfl, hs, ht⟩, by simpa using hk⟩
    unfold awops at h
    split at h
    · rename_i hg
      obtain ⟨r, hy, hk⟩ := aop_yields h
      exact done (some r) _ (by unfold StepC; rw [hg]; exact hy) rfl hk
    · rename_i j want hg
      unfold optK at h
      split at h
      · rename_i b hb
        unfold Br at h
        split at h
        · rename_i he
          obtain rfl : b = some want := by simpa using he
          obtain ⟨r, hy, hk⟩ := aop_yields h
          exact done (some r) _ (by unfold StepC; rw [hg]; exact ⟨hb, hy⟩) rfl hk
        · rename_i he
          exact done none _ (by unfold StepC; rw [hg]; exact ⟨b, hb, by simpa using he⟩) rfl h
      · exact h.elim
end Go.Ab
end
