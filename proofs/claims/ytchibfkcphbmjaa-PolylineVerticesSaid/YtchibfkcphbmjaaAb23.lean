/- The abstract interpreter: what an operation looks at. -/
import Derived.Test.YtchibfkcphbmjaaAb22
set_option linter.unusedVariables false
set_option linter.unusedSimpArgs false
set_option linter.unusedSectionVars false

namespace Go.Ab
open Go.RowKit (Below)

theorem get_append {α : Type} (x y : List (Nat × α)) (i : Nat) : get (x ++ y) i = match get x i with | some v => some v | none => get y i := by
  induction x with
  | nil => rfl
  | cons p x ih =>
    obtain ⟨u, v⟩ := p
    simp only [List.cons_append, get_cons]
    split
    · rfl
    · exact ih
theorem get_append_congr {α : Type} {x y y' : List (Nat × α)} {i : Nat} (h : get y' i = get y i) : get (x ++ y') i = get (x ++ y) i := by
  rw [get_append, get_append, h]

theorem oprs_foot {s s' : AS} : ∀ {l : List Operand} {vs : List AV}, (∀ x, x ∈ l → opr s' x = opr s x) → oprs s l = some vs → oprs s' l = some vs
  | [], _, _, h => h
  | x :: r, vs, hx, h => by
    unfold oprs at h ⊢
    rw [hx x List.mem_cons_self]
    split at h
    · rename_i v vs' h1 h2
      rw [h1, oprs_foot (fun y hy => hx y (List.mem_cons_of_mem _ hy)) h2]
      exact h
    · exact absurd h (by simp)
theorem oprs2_foot {s s' : AS} : ∀ {l : List (Nat × Operand)} {vs : List (Nat × AV)}, (∀ x, x ∈ l.map (·.2) → opr s' x = opr s x) → oprs2 s l = some vs → oprs2 s' l = some vs
  | [], _, _, h => h
  | (i, x) :: r, vs, hx, h => by
    unfold oprs2 at h ⊢
    rw [hx x (by simp)]
    split at h
    · rename_i v vs' h1 h2
      rw [h1, oprs2_foot (fun y hy => hx y (by simp only [List.map_cons, List.mem_cons]; exact .inr hy)) h2]
      exact h
    · exact absurd h (by simp)

theorem pureCell_foot {mem mem' : List (Nat × Arr)} {c : AV} {x : AV × List (Nat × Arr) × List Nat} (h : pureCell mem c = some x) (hm : ∀ id, id ∈ x.2.2 → get mem' id = get mem id) : pureCell mem' c = some x := by
  unfold pureCell at h ⊢
  split at h
  · rename_i id off len
    have key : get mem' id = get mem id := by
      split at h
      · split at h
        · obtain rfl := Option.some.inj h; exact hm id (by simp)
        · exact absurd h (by simp)
      · split at h
        · obtain rfl := Option.some.inj h; exact hm id (by simp)
        · exact absurd h (by simp)
      · exact absurd h (by simp)
    simp only [key]
    exact h
  all_goals exact h

theorem pureCells_foot : ∀ {cs : List AV} {mem mem' : List (Nat × Arr)} {x : List AV × List (Nat × Arr) × List Nat}, pureCells mem cs = some x → (∀ id, id ∈ x.2.2 → get mem' id = get mem id) → pureCells mem' cs = some x
  | [], _, _, _, h, _ => h
  | c :: r, mem, mem', x, h, hm => by
    unfold pureCells at h ⊢
    split at h
    · rename_i c' d rd h1
      split at h
      · rename_i r' d' rd' h2
        obtain rfl := Option.some.inj h
        rw [pureCell_foot h1 (fun id hi => hm id (by simp at hi ⊢; exact .inl hi))]
        simp only
        rw [pureCells_foot h2 (fun id hi => get_append_congr (hm id (by simp at hi ⊢; exact .inr hi)))]
      · exact absurd h (by simp)
    · exact absurd h (by simp)

theorem pureRows_foot : ∀ {cs : List (List AV)} {mem mem' : List (Nat × Arr)} {x : List (List AV) × List (Nat × Arr) × List Nat}, pureRows mem cs = some x → (∀ id, id ∈ x.2.2 → get mem' id = get mem id) → pureRows mem' cs = some x
  | [], _, _, _, h, _ => h
  | c :: r, mem, mem', x, h, hm => by
    unfold pureRows at h ⊢
    split at h
    · rename_i c' d rd h1
      split at h
      · rename_i r' d' rd' h2
        obtain rfl := Option.some.inj h
        rw [pureCells_foot h1 (fun id hi => hm id (by simp at hi ⊢; exact .inl hi))]
        simp only
        rw [pureRows_foot h2 (fun id hi => get_append_congr (hm id (by simp at hi ⊢; exact .inr hi)))]
      · exact absurd h (by simp)
    · exact absurd h (by simp)

theorem behind_foot {s s' : AS} {p : AV} {x : List AV × List Nat} (h : behind s p = some x) (hm : ∀ id, id ∈ x.2 → get s'.mem id = get s.mem id) : behind s' p = some x := by
  unfold behind at h ⊢
  split at h
  · exact h
  · rename_i id i j
    have key : get s'.mem id = get s.mem id := by
      split at h
      · split at h
        · obtain rfl := Option.some.inj h; exact hm id (by simp)
        · exact absurd h (by simp)
      · split at h
        · obtain rfl := Option.some.inj h; exact hm id (by simp)
        · exact absurd h (by simp)
      · split at h
        · obtain rfl := Option.some.inj h; exact hm id (by simp)
        · exact absurd h (by simp)
      · exact absurd h (by simp)
    simp only [key]
    exact h
  · exact absurd h (by simp)

theorem source_foot {s s' : AS} {n : Nat} {p : AV} {x : List (List AV) × List Nat} (h : source s n p = some x) (hm : ∀ id, id ∈ x.2 → get s'.mem id = get s.mem id) : source s' n p = some x := by
  unfold source at h ⊢
  split at h
  · exact h
  · exact h
  · rename_i id off len
    have key : get s'.mem id = get s.mem id := by
      split at h
      · split at h
        · obtain rfl := Option.some.inj h; exact hm id (by simp)
        · exact absurd h (by simp)
      · split at h
        · obtain rfl := Option.some.inj h; exact hm id (by simp)
        · exact absurd h (by simp)
      · exact absurd h (by simp)
    simp only [key]
    exact h
  · exact h
  · exact absurd h (by simp)

theorem loadE_foot {P : Program} {s s' : AS} {t : TypeId} {p : AV} {r : Res} (h : loadE P s t p = some r) (hn : s'.nx = s.nx) (hm : ∀ id, id ∈ r.rd → get s'.mem id = get s.mem id) : loadE P s' t p = some r := by
  unfold loadE at h ⊢
  split at h
  · rename_i a cs rd h1 h2
    split at h
    · rename_i v hv
      obtain rfl := Option.some.inj h
      rw [h1, behind_foot h2 (fun id hi => hm id hi)]
      simp only [hv, hn]
    · exact absurd h (by simp)
  · exact absurd h (by simp)

theorem storeE_foot {P : Program} {s s' : AS} {t : TypeId} {p v : AV} {r : Res} (h : storeE P s t p v = some r) (hn : s'.nx = s.nx) (hm : ∀ id, id ∈ r.rd → get s'.mem id = get s.mem id) : storeE P s' t p v = some r := by
  unfold storeE at h ⊢
  split at h
  · rename_i z n vs id i j h1 h2
    try rw [h1, h2]
    try simp only
    split at h
    · rename_i hl
      rw [if_pos hl]
      split at h
      · rename_i cs hg
        split at h
        · rename_i hi
          split at h
          · rename_i cs' hc
            obtain rfl := Option.some.inj h
            rw [hm id (by simp), hg]
            simp only [hi, if_true, hc, hn]
          · exact absurd h (by simp)
        · exact absurd h (by simp)
      · rename_i sz xs hg
        split at h
        · rename_i vs' d rd cs h3 h4
          split at h
          · rename_i hd
            split at h
            · rename_i cs' hc
              obtain rfl := Option.some.inj h
              rw [hm id (by simp), hg]
              simp only [pureCells_foot h3 (fun id hi => hm id (by simp at hi ⊢; exact .inr hi)), h4, hd, if_true, hc, hn]
            · exact absurd h (by simp)
          · exact absurd h (by simp)
        · exact absurd h (by simp)
      · exact absurd h (by simp)
    · exact absurd h (by simp)
  · exact absurd h (by simp)

theorem buildSliceE_foot {P : Program} {s s' : AS} {t : TypeId} {len : Nat} {ps : List (Nat × AV)} {r : Res} (h : buildSliceE P s t len ps = some r) (hn : s'.nx = s.nx) (hm : ∀ id, id ∈ r.rd → get s'.mem id = get s.mem id) : buildSliceE P s' t len ps = some r := by
  unfold buildSliceE at h ⊢
  split at h
  · rename_i e he
    try simp only [he]
    split at h
    · rename_i g n z h1 h2
      try simp only [h1, h2]
      split at h
      · rename_i hc
        rw [if_pos hc]
        split at h
        · rename_i xs hx
          try simp only [hx]
          split at h
          · rename_i xs' d rd hp
            obtain rfl := Option.some.inj h
            rw [pureRows_foot hp (fun id hi => hm id hi)]
            simp only [hn]
          · exact absurd h (by simp)
        · exact absurd h (by simp)
      · exact absurd h (by simp)
    · exact absurd h (by simp)
  · exact absurd h (by simp)

theorem sliceE_foot {P : Program} {s s' : AS} {t : TypeId} {x : AV} {lo hi : Option AV} {r : Res} (h : sliceE P s t x lo hi = some r) (hn : s'.nx = s.nx) (hm : ∀ id, id ∈ r.rd → get s'.mem id = get s.mem id) : sliceE P s' t x lo hi = some r := by
  unfold sliceE at h ⊢
  rw [hn]
  split at h
  · exact h
  · exact h
  · rename_i id off len
    have key : get s'.mem id = get s.mem id := by
      split at h
      · split at h
        · obtain rfl := Option.some.inj h; exact hm id (by simp)
        · exact absurd h (by simp)
      · split at h
        · obtain rfl := Option.some.inj h; exact hm id (by simp)
        · exact absurd h (by simp)
      · exact absurd h (by simp)
    simp only [key]
    exact h
  · exact absurd h (by simp)

theorem indexAddrE_foot {P : Program} {s s' : AS} {t : TypeId} {x i : AV} {r : Res} (h : indexAddrE P s t x i = some r) (hn : s'.nx = s.nx) (hm : ∀ id, id ∈ r.rd → get s'.mem id = get s.mem id) : indexAddrE P s' t x i = some r := by
  unfold indexAddrE at h ⊢
  rw [hn]
  split at h
  · rename_i k i z n hz
    try simp only [hz]
    split at h
    · exact h
    · rename_i id off len
      have key : get s'.mem id = get s.mem id := by
        split at h
        · split at h
          · obtain rfl := Option.some.inj h; exact hm id (by simp)
          · exact absurd h (by simp)
        · split at h
          · obtain rfl := Option.some.inj h; exact hm id (by simp)
          · exact absurd h (by simp)
        · exact absurd h (by simp)
      simp only [key]
      exact h
    · exact absurd h (by simp)
  · exact absurd h (by simp)

theorem appendE_foot {P : Program} {s s' : AS} {t : TypeId} {x y : AV} {ok : Bool} {r : Res} (h : appendE P s t x y ok = some r) (hn : s'.nx = s.nx) (hm : ∀ id, id ∈ r.rd → get s'.mem id = get s.mem id) : appendE P s' t x y ok = some r := by
  unfold appendE at h ⊢
  rw [hn]
  split at h
  · rename_i e he
    try simp only [he]
    split at h
    · rename_i g n b z h1 h2 h3
      try simp only [h1, h2, h3]
      split at h
      · rename_i es rd hs
        split at h
        · rename_i hc
          split at h
          · split at h
            · rename_i hl
              obtain rfl := Option.some.inj h
              rw [source_foot hs (fun id hi => hm id hi)]
              simp only [hc, and_self, if_true, hl]
            · exact absurd h (by simp)
          · rename_i id off len
            split at h
            · rename_i sz xs hg
              split at h
              · rename_i hl
                obtain rfl := Option.some.inj h
                rw [source_foot hs (fun id hi => hm id (by simp at hi ⊢; exact .inr hi))]
                simp only
                rw [hm id (by simp), hg]
                simp only
                rw [if_pos hc, if_pos hl]
              · exact absurd h (by simp)
            · exact absurd h (by simp)
          · exact absurd h (by simp)
        · exact absurd h (by simp)
      · exact absurd h (by simp)
    · exact absurd h (by simp)
  · exact absurd h (by simp)

theorem copyE_foot {P : Program} {s s' : AS} {t : TypeId} {x y : AV} {r : Res} (h : copyE P s t x y = some r) (hn : s'.nx = s.nx) (hm : ∀ id, id ∈ r.rd → get s'.mem id = get s.mem id) : copyE P s' t x y = some r := by
  unfold copyE at h ⊢
  rw [hn]
  split at h
  · rename_i g n id off len hz
    try simp only [hz]
    split at h
    · rename_i sz xs es rd hg hs
      split at h
      · rename_i hc
        obtain rfl := Option.some.inj h
        rw [source_foot hs (fun id hi => hm id (by simp at hi ⊢; exact .inr hi)), hm id (by simp), hg]
        simp only
        rw [if_pos hc]
      · exact absurd h (by simp)
    · exact absurd h (by simp)
  · exact absurd h (by simp)

theorem builtinE_foot {P : Program} {s s' : AS} {b : Builtin} {ts : List TypeId} {xs : List AV} {r : Res} (h : builtinE P s b ts xs = some r) (hn : s'.nx = s.nx) (hm : ∀ id, id ∈ r.rd → get s'.mem id = get s.mem id) : builtinE P s' b ts xs = some r := by
  unfold builtinE at h ⊢
  split at h
  · unfold lenE at h ⊢; rw [hn]; exact h
  · exact appendE_foot h hn hm
  · exact copyE_foot h hn hm
  · rw [hn]; exact h
  · rw [hn]; exact h
  · exact absurd h (by simp)

theorem ev_foot {P : Program} {s s' : AS} {o : Oper} {r : Res} (h : ev P o s = some r) (hn : s'.nx = s.nx) (ho : ∀ x, x ∈ o.op.operands.toList → opr s' x = opr s x)
    (hm : ∀ id, id ∈ r.rd → get s'.mem id = get s.mem id) : ev P o s' = some r := by
  obtain ⟨dst, op, type, pos, after, guard⟩ := o
  unfold ev at h ⊢
  simp only at h ho ⊢
  split at h
  · rw [ho _ (by simp [Op.operands]), hn]; exact h
  · rw [ho _ (by simp [Op.operands]), hn]; exact h
  · rw [ho _ (by simp [Op.operands]), ho _ (by simp [Op.operands]), ho _ (by simp [Op.operands]), hn]; exact h
  · unfold allocE at h ⊢; rw [hn]; exact h
  · rw [ho _ (by simp [Op.operands])]; unfold boxE at h ⊢; rw [hn]; exact h
  · rename_i t ps
    split at h
    · rename_i vs hv
      rw [oprs2_foot (fun x hx => ho x (by simpa [Op.operands] using hx)) hv]
      unfold buildE at h ⊢; rw [hn]; exact h
    · exact absurd h (by simp)
  · rename_i t n ps
    split at h
    · rename_i vs hv
      rw [oprs2_foot (fun x hx => ho x (by simpa [Op.operands] using hx)) hv]
      exact buildSliceE_foot h hn hm
    · exact absurd h (by simp)
  · rw [ho _ (by simp [Op.operands])]
    split at h
    · exact loadE_foot h hn hm
    · exact absurd h (by simp)
  · rw [ho _ (by simp [Op.operands]), ho _ (by simp [Op.operands])]
    split at h
    · exact storeE_foot h hn hm
    · exact absurd h (by simp)
  · rw [ho _ (by simp [Op.operands]), hn]; exact h
  · rw [ho _ (by simp [Op.operands]), ho _ (by simp [Op.operands]), hn]; exact h
  · rw [ho _ (by simp [Op.operands]), hn]; exact h
  · rw [ho _ (by simp [Op.operands])]; unfold convE at h ⊢; rw [hn]; exact h
  · rename_i f a b
    split at h
    · rename_i va vb h1 h2
      rw [oprs_foot (fun x hx => ho x (by simp only [Op.operands, Array.toList_append, List.mem_append]; exact .inl hx)) h1, oprs_foot (fun x hx => ho x (by simp only [Op.operands, Array.toList_append, List.mem_append]; exact .inr hx)) h2, hn]
      exact h
    · exact absurd h (by simp)
  · rw [ho _ (by simp [Op.operands]), ho _ (by simp [Op.operands])]; unfold makeSliceE at h ⊢; rw [hn]; exact h
  · rw [ho _ (by simp [Op.operands])]
    split at h
    · exact sliceE_foot h hn hm
    · exact absurd h (by simp)
  · rw [ho _ (by simp [Op.operands]), ho _ (by simp [Op.operands])]
    split at h
    · exact sliceE_foot h hn hm
    · exact absurd h (by simp)
  · rw [ho _ (by simp [Op.operands]), ho _ (by simp [Op.operands])]
    split at h
    · exact sliceE_foot h hn hm
    · exact absurd h (by simp)
  · rw [ho _ (by simp [Op.operands]), ho _ (by simp [Op.operands]), ho _ (by simp [Op.operands])]
    split at h
    · exact sliceE_foot h hn hm
    · exact absurd h (by simp)
  · rw [ho _ (by simp [Op.operands])]; unfold fieldAddrE at h ⊢; rw [hn]; exact h
  · rw [ho _ (by simp [Op.operands])]; unfold fieldE at h ⊢; rw [hn]; exact h
  · rw [ho _ (by simp [Op.operands]), ho _ (by simp [Op.operands])]
    split at h
    · exact indexAddrE_foot h hn hm
    · exact absurd h (by simp)
  · rw [ho _ (by simp [Op.operands]), ho _ (by simp [Op.operands])]; unfold indexE at h ⊢; rw [hn]; exact h
  · rw [ho _ (by simp [Op.operands]), hn]; exact h
  · rename_i c
    split at h
    · rename_i b hb
      try simp only [hb]
      split at h
      · rename_i vs hv
        rw [oprs_foot (fun x hx => ho x (by simp [Op.operands, Call.operands, hb]; simpa using hx)) hv]
        exact builtinE_foot h hn hm
      · exact absurd h (by simp)
    · exact absurd h (by simp)
  · exact absurd h (by simp)
end Go.Ab
