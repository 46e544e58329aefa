/- The abstract interpreter: steps of a region. -/
import Derived.Test.YtchibfkcphbmjaaAb23
set_option linter.unusedVariables false
set_option linter.unusedSimpArgs false
set_option linter.unusedSectionVars false

namespace Go.Ab
open Go.RowKit (Below)

/-! What a call looks at. -/
theorem ArgTo.mono {mem mem' : List (Nat × Arr)} (hm : ∀ id arr, get mem id = some arr → get mem' id = some arr) {a a' : AV} (h : ArgTo mem a a') : ArgTo mem' a a' := by
  induction h with
  | same h => exact .same h
  | nil sz => exact .nil sz
  | row hg hl => exact .row (hm _ _ hg) hl
  | frz hg hl => exact .frz (hm _ _ hg) hl
  | empty hg => exact .empty (hm _ _ hg)
  | box hg hl _ ih => exact .box (hm _ _ hg) hl ih
  | fn hx hy _ _ ih1 ih2 => exact .fn hx hy ih1 ih2
  | agg hx _ ih => exact .agg hx ih
theorem ArgTo.mono' {mem mem' : List (Nat × Arr)} {a a' : AV} (h : ArgTo mem a a') (ho : owns a = false) : ArgTo mem' a a' := by
  cases h with
  | same h => exact .same h
  | nil sz => exact .nil sz
  | row _ _ => cases ho
  | frz _ _ => cases ho
  | empty _ => cases ho
  | box _ _ _ => cases ho
  | fn _ _ _ _ => cases ho
  | agg _ _ => cases ho
theorem ArgsTo.mono {mem mem' : List (Nat × Arr)} : ∀ {as as' : List AV}, (as.any owns = true → ∀ id arr, get mem id = some arr → get mem' id = some arr) → ArgsTo mem as as' → ArgsTo mem' as as'
  | [], [], _, _ => trivial
  | a :: r, a' :: r', hm, h => by
    refine ⟨?_, ArgsTo.mono (fun hr => hm (by simp [hr])) h.2⟩
    cases ho : owns a with
    | true => exact h.1.mono (hm (by simp [ho]))
    | false => exact h.1.mono' ho
  | [], _ :: _, _, h => h.elim
  | _ :: _, [], _, h => h.elim
theorem frzOf_mono {mem mem' : List (Nat × Arr)} : ∀ {as : List AV} {z : List (Nat × Arr)}, (as.any owns = true → ∀ id arr, get mem id = some arr → get mem' id = some arr) → frzOf mem as = some z → frzOf mem' as = some z
  | [], _, _, h => h
  | a :: r, z, hm, h => by
    have hr : (r.any owns = true → ∀ id arr, get mem id = some arr → get mem' id = some arr) := fun q => hm (by simp [q])
    cases a with
    | own id off len =>
      have hm' := hm (by simp [owns])
      unfold frzOf at h ⊢
      split at h
      · rename_i sz xs d hg hd
        rw [hm' _ _ hg, frzOf_mono hr hd]; exact h
      · rename_i sz xs d hg hd
        rw [hm' _ _ hg, frzOf_mono hr hd]; exact h
      · exact absurd h (by simp)
    | agg cs =>
      unfold frzOf at h ⊢
      split at h
      · rename_i hc; rw [if_pos hc]; exact frzOf_mono hr h
      · exact absurd h (by simp)
    | ptr _ _ _ => simp only [frzOf, owns, if_true] at h; exact absurd h (by simp)
    | fn _ _ _ => simp only [frzOf, owns, if_true] at h; exact absurd h (by simp)
    | tup _ => simp only [frzOf, owns, if_true] at h; exact absurd h (by simp)
    | jk => simp only [frzOf, owns] at h ⊢; exact frzOf_mono hr (by simpa using h)
    | sc _ => simp only [frzOf, owns] at h ⊢; exact frzOf_mono hr (by simpa using h)
    | nil => simp only [frzOf, owns] at h ⊢; exact frzOf_mono hr (by simpa using h)
    | sl _ _ => simp only [frzOf, owns] at h ⊢; exact frzOf_mono hr (by simpa using h)
    | fr _ _ => simp only [frzOf, owns] at h ⊢; exact frzOf_mono hr (by simpa using h)
    | ref _ => simp only [frzOf, owns] at h ⊢; exact frzOf_mono hr (by simpa using h)

theorem get_mem_keys {α : Type} {m : List (Nat × α)} {i : Nat} {a : α} (h : get m i = some a) : i ∈ m.map (·.1) := by
  induction m with
  | nil => cases h
  | cons p m ih =>
    obtain ⟨u, v⟩ := p
    rw [get_cons] at h
    split at h
    · rename_i e; simp [e]
    · simp [List.mem_cons]; right; simpa using ih h

theorem call_foot {R : CallRel} {s s' : AS} {g : FuncId} {as : List AV} {r : Res} (h : CallYields R s g as r) (hn : s'.nx = s.nx) (hm : ∀ id, id ∈ r.rd → get s'.mem id = get s.mem id) : ∃ rd, CallYields R s' g as { r with rd := rd } := by
  obtain ⟨as', v, h1, h2, h3⟩ := h
  have hrd : r.rd = if as.any owns then s.mem.map (·.1) else [] := by
    rcases h3 with ⟨_, rfl⟩ | ⟨_, _, _, rfl⟩ <;> rfl
  have hm' : as.any owns = true → ∀ id arr, get s.mem id = some arr → get s'.mem id = some arr := by
    intro ho id arr hg
    rw [hm id (by rw [hrd, if_pos ho]; exact get_mem_keys hg), hg]
  refine ⟨if as.any owns then s'.mem.map (·.1) else [], as', v, h1.mono hm', h2, ?_⟩
  rcases h3 with ⟨q, rfl⟩ | ⟨z, hz, q, rfl⟩
  · exact .inl ⟨q, by simp [hn]⟩
  · exact .inr ⟨z, frzOf_mono hm' hz, q, by simp [hn]⟩

theorem callee_foot {s s' : AS} {c : Call} {x : FuncId × List AV} (h : callee s c = some x) (ho : ∀ y, y ∈ c.operands.toList → opr s' y = opr s y) : callee s' c = some x := by
  obtain ⟨cl, args, ts⟩ := c
  cases cl with
  | value f =>
    unfold callee at h ⊢
    simp only at h ⊢
    split at h
    · rename_i g first cap as h1 h2
      rw [ho f (by simp [Call.operands]), h1, oprs_foot (fun y hy => ho y (by simp [Call.operands]; right; simpa using hy)) h2]
      exact h
    · exact absurd h (by simp)
  | _ => exact absurd h (by simp [callee])

theorem yields_foot {P : Program} {R : CallRel} {s s' : AS} {o : Oper} {r : Res} (h : AYields P R o s r) (hn : s'.nx = s.nx) (ho : ∀ x, x ∈ o.op.operands.toList → opr s' x = opr s x)
    (hm : ∀ id, id ∈ r.rd → get s'.mem id = get s.mem id) : ∃ rd, AYields P R o s' { r with rd := rd } := by
  unfold AYields at h ⊢
  split at h
  · rename_i f args ts hop
    obtain ⟨x, hx, hy⟩ := h
    obtain ⟨rd, hy'⟩ := call_foot hy hn hm
    exact ⟨rd, x, callee_foot hx (fun y hy => ho y (by rw [hop]; exact hy)), hy'⟩
  · exact ⟨r.rd, ev_foot h hn ho hm⟩

/-! Numbers only grow. -/
theorem imp_le (n : Nat) (a : AV) : n ≤ (imp n a).2.2 := by
  cases a <;> first | exact imp1_le n _ | exact imps_le _ n
theorem call_nx {R : CallRel} {s : AS} {g : FuncId} {as : List AV} {r : Res} (h : CallYields R s g as r) : s.nx ≤ r.nx := by
  obtain ⟨as', v, h1, h2, ⟨_, rfl⟩ | ⟨z, hz, q, rfl⟩⟩ := h
  · exact Nat.le_refl _
  · exact imp_le _ _

theorem storeE_nx {P : Program} {s : AS} {t : TypeId} {p v : AV} {r : Res} (h : storeE P s t p v = some r) : s.nx ≤ r.nx := by
  unfold storeE at h
  repeat' split at h
  all_goals first | (obtain rfl := Option.some.inj h; exact Nat.le_refl _) | exact absurd h (by simp)
theorem buildSliceE_nx {P : Program} {s : AS} {t : TypeId} {len : Nat} {ps : List (Nat × AV)} {r : Res} (h : buildSliceE P s t len ps = some r) : s.nx ≤ r.nx := by
  unfold buildSliceE at h
  repeat' split at h
  all_goals first | (obtain rfl := Option.some.inj h; exact Nat.le_succ _) | exact absurd h (by simp)
theorem makeSliceE_nx {P : Program} {s : AS} {t : TypeId} {l c : AV} {r : Res} (h : makeSliceE P s t l c = some r) : s.nx ≤ r.nx := by
  unfold makeSliceE at h
  repeat' split at h
  all_goals first | (obtain rfl := Option.some.inj h; exact Nat.le_succ _) | exact absurd h (by simp)
theorem sliceE_nx {P : Program} {s : AS} {t : TypeId} {x : AV} {lo hi : Option AV} {r : Res} (h : sliceE P s t x lo hi = some r) : s.nx ≤ r.nx := by
  unfold sliceE at h
  repeat' split at h
  all_goals first | (obtain rfl := Option.some.inj h; exact Nat.le_refl _) | exact absurd h (by simp)
theorem indexAddrE_nx {P : Program} {s : AS} {t : TypeId} {x i : AV} {r : Res} (h : indexAddrE P s t x i = some r) : s.nx ≤ r.nx := by
  unfold indexAddrE at h
  repeat' split at h
  all_goals first | (obtain rfl := Option.some.inj h; exact Nat.le_refl _) | exact absurd h (by simp)
theorem builtinE_nx {P : Program} {s : AS} {b : Builtin} {ts : List TypeId} {xs : List AV} {r : Res} (h : builtinE P s b ts xs = some r) : s.nx ≤ r.nx := by
  unfold builtinE at h
  split at h
  · unfold lenE at h
    repeat' split at h
    all_goals first | (obtain rfl := Option.some.inj h; exact Nat.le_refl _) | exact absurd h (by simp)
  · unfold appendE at h
    repeat' split at h
    all_goals first | (obtain rfl := Option.some.inj h; exact Nat.le_succ _) | exact absurd h (by simp)
  · unfold copyE at h
    repeat' split at h
    all_goals first | (obtain rfl := Option.some.inj h; exact Nat.le_refl _) | exact absurd h (by simp)
  · obtain ⟨m, _, rfl⟩ := Option.map_eq_some_iff.1 h; exact Nat.le_refl _
  · obtain ⟨m, _, rfl⟩ := Option.map_eq_some_iff.1 h; exact Nat.le_refl _
  · exact absurd h (by simp)
theorem ev_nx {P : Program} {o : Oper} {s : AS} {r : Res} (h : ev P o s = some r) : s.nx ≤ r.nx := by
  unfold ev at h
  split at h
  all_goals try (repeat' split at h)
  all_goals first
    | exact storeE_nx h
    | exact buildSliceE_nx h
    | exact makeSliceE_nx h
    | exact sliceE_nx h
    | exact indexAddrE_nx h
    | exact builtinE_nx h
    | (obtain rfl := Option.some.inj h; exact Nat.le_refl _)
    | (exfalso; simp at h; done)
    | (unfold allocE at h; (repeat' split at h); all_goals first | (obtain rfl := Option.some.inj h; exact Nat.le_succ _) | exact absurd h (by simp))
    | (unfold boxE at h; (repeat' split at h); all_goals first | (obtain rfl := Option.some.inj h; exact Nat.le_succ _) | exact absurd h (by simp))
    | (unfold buildE at h; (repeat' split at h); all_goals first | (obtain rfl := Option.some.inj h; exact Nat.le_refl _) | exact absurd h (by simp))
    | (unfold loadE at h; (repeat' split at h); all_goals first | (obtain rfl := Option.some.inj h; exact Nat.le_refl _) | exact absurd h (by simp))
    | (unfold convE at h; (repeat' split at h); all_goals first | (obtain rfl := Option.some.inj h; exact Nat.le_refl _) | exact absurd h (by simp))
    | (unfold fieldAddrE at h; (repeat' split at h); all_goals first | (obtain rfl := Option.some.inj h; exact Nat.le_refl _) | exact absurd h (by simp))
    | (unfold fieldE at h; (repeat' split at h); all_goals first | (obtain rfl := Option.some.inj h; exact Nat.le_refl _) | exact absurd h (by simp))
    | (unfold indexE at h; (repeat' split at h); all_goals first | (obtain rfl := Option.some.inj h; exact Nat.le_refl _) | exact absurd h (by simp))
theorem yields_nx {P : Program} {R : CallRel} {s : AS} {o : Oper} {r : Res} (h : AYields P R o s r) : s.nx ≤ r.nx := by
  unfold AYields at h
  split at h
  · obtain ⟨x, _, hy⟩ := h; exact call_nx hy
  · exact ev_nx h

/-! One step of a region. -/
def StepC (P : Program) (R : CallRel) (ops : Array Oper) (o : Oper) (s : AS) (x : Option Res) : Prop :=
  match o.guard, x with
  | none, some r => AYields P R o s r
  | some (j, want), some r => guardVal ops s j = some (some want) ∧ AYields P R o s r
  | some (j, want), none => ∃ b, guardVal ops s j = some b ∧ (b == some want) = false
  | none, none => False
def stp (o : Oper) (x : Option Res) (s : AS) : AS :=
  match x with
  | some r => s.put o.dst r
  | none => s.junk o.dst
def logOf : Option Res → List Nat × List Nat
  | some r => (r.rd, r.d.map (·.1))
  | none => ([], [])
def nxOf (s : AS) : Option Res → Nat
  | some r => r.nx
  | none => s.nx

theorem StepC.nx {P : Program} {R : CallRel} {ops : Array Oper} {o : Oper} {s : AS} {x : Option Res} (h : StepC P R ops o s x) : s.nx ≤ nxOf s x := by
  unfold StepC at h
  split at h
  · exact yields_nx h
  · exact yields_nx h.2
  · exact Nat.le_refl _
  · exact h.elim

def Trace (P : Program) (R : CallRel) (ops : Array Oper) : List Oper → AS → List (Option Res) → AS → Prop
  | [], s, xs, s' => xs = [] ∧ s' = s
  | o :: rest, s, xs, s' => ∃ x xs', xs = x :: xs' ∧ StepC P R ops o s x ∧ Trace P R ops rest (stp o x s) xs' s'

theorem awops_trace {P : Program} {R : CallRel} {ops : Array Oper} {K : AS → Log → Prop} : ∀ {l : List Oper} {s : AS} {lg : Log}, awops P R ops l s lg K →
    ∃ xs s', Trace P R ops l s xs s' ∧ K s' ((xs.map logOf).reverse ++ lg)
  | [], s, lg, h => ⟨[], s, ⟨rfl, rfl⟩, by simpa using h⟩
  | o :: rest, s, lg, h => by
    have done : ∀ (x : Option Res) (b : Log), StepC P R ops o s x → b = logOf x :: lg → awops P R ops rest (stp o x s) b K → ∃ xs s', Trace P R ops (o :: rest) s xs s' ∧ K s' ((xs.map logOf).reverse ++ lg) := by
      rintro x b hs rfl h
      obtain ⟨xs, s', ht, hk⟩ := awops_trace h
      exact ⟨x :: xs, s', ⟨x, xs, rfl, hs, ht⟩, by simpa using hk⟩
    unfold awops at h
    split at h
    · rename_i hg
      obtain ⟨r, hy, hk⟩ := aop_yields h
      exact done (some r) _ (by unfold StepC; rw [hg]; exact hy) rfl hk
    · rename_i j want hg
      unfold optK at h
      split at h
      · rename_i b hb
        unfold Br at h
        split at h
        · rename_i he
          obtain rfl : b = some want := by simpa using he
          obtain ⟨r, hy, hk⟩ := aop_yields h
          exact done (some r) _ (by unfold StepC; rw [hg]; exact ⟨hb, hy⟩) rfl hk
        · rename_i he
          exact done none _ (by unfold StepC; rw [hg]; exact ⟨b, hb, by simpa using he⟩) rfl h
      · exact h.elim
end Go.Ab
