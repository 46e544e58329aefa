/- The abstract interpreter: steps of a region. -/
import Derived.Test.YtjbodjmkfklleaaDoorAb23
set_option linter.unusedVariables false
set_option linter.unusedSimpArgs false
set_option linter.unusedSectionVars false

section
namespace Go.Ab
open Go.RowKit (Below)

/-! What a call looks at. -/
theorem ArgTo.mono {mem mem' : List (Nat × Arr)} (hm : ∀ id arr, get mem id = some arr → get mem' id = some arr) {a a' : AV} (h : ArgTo mem a a') : ArgTo mem' a a' := by
  induction h with
  | same h => exact .same h
  | nil sz => exact .nil sz
  | row hg hl => exact .row (hm _ _ hg) hl
  | frz hg hl => exact .frz (hm _ _ hg) hl
  | empty hg => exact .empty (hm _ _ hg)
  | box hg hl _ ih => exact .box (hm _ _ hg) hl ih
  | fn hx hy _ _ ih1 ih2 => exact .fn hx hy ih1 ih2
  | agg hx _ ih => exact .agg hx ih
theorem ArgTo.mono' {mem mem' : List (Nat × Arr)} {a a' : AV} (h : ArgTo mem a a') (ho : owns a = false) : ArgTo mem' a a' := by
  cases h with
  | same h => exact .same h
  | nil sz => exact .nil sz
  | row _ _ => cases ho
  | frz _ _ => cases ho
  | empty _ => cases ho
  | box _ _ _ => cases ho
  | fn _ _ _ _ => cases ho
  | agg _ _ => cases ho
theorem ArgsTo.mono {mem mem' : List (Nat × Arr)} : ∀ {as as' : List AV}, (as.any owns = true → ∀ id arr, get mem id = some arr → get mem' id = some arr) → ArgsTo mem as as' → ArgsTo mem' as as'
  | [], [], _, _ => trivial
  | a :: r, a' :: r', hm, h => by
    refine ⟨?_, ArgsTo.mono (fun hr => hm (by simp [hr])) h.2⟩
    cases ho : owns a with
    | true => exact h.1.mono (hm (by simp [ho]))
    | false => exact h.1.mono' ho
  | [], _ :: _, _, h => h.elim
  | _ :: _, [], _, h => h.elim
theorem frzC_mono {mem mem' : List (Nat × Arr)} : ∀ {as : List AV} {z : List (Nat × Arr)}, (as.any owns = true → ∀ id arr, get mem id = some arr → get mem' id = some arr) → frzC mem as = some z → frzC mem' as = some z
  | [], _, _, h => h
  | a :: r, z, hm, h => by
    have hr : (r.any owns = true → ∀ id arr, get mem id = some arr → get mem' id = some arr) := fun q => hm (by simp [q])
    cases a with
    | own id off len =>
      have hm' := hm (by simp [owns])
      unfold frzC at h ⊢
      split at h
      · rename_i sz xs d hg hd
        rw [hm' _ _ hg, frzC_mono hr hd]; exact h
      · rename_i sz xs d hg hd
        rw [hm' _ _ hg, frzC_mono hr hd]; exact h
      · exact absurd h (by simp)
    | agg _ => simp only [frzC, owns, if_true] at h; exact absurd h (by simp)
    | ptr _ _ _ => simp only [frzC, owns, if_true] at h; exact absurd h (by simp)
    | fn _ _ _ => simp only [frzC, owns, if_true] at h; exact absurd h (by simp)
    | tup _ => simp only [frzC, owns, if_true] at h; exact absurd h (by simp)
    | jk => simp only [frzC, owns] at h ⊢; exact frzC_mono hr (by simpa using h)
    | sc _ => simp only [frzC, owns] at h ⊢; exact frzC_mono hr (by simpa using h)
    | nil => simp only [frzC, owns] at h ⊢; exact frzC_mono hr (by simpa using h)
    | sl _ _ => simp only [frzC, owns] at h ⊢; exact frzC_mono hr (by simpa using h)
    | fr _ _ => simp only [frzC, owns] at h ⊢; exact frzC_mono hr (by simpa using h)
    | ref _ => simp only [frzC, owns] at h ⊢; exact frzC_mono hr (by simpa using h)

theorem flatA_owns : ∀ {as : List AV}, (flatA as).any owns = true → as.any owns = true
  | [], h => h
  | a :: r, h => by
    cases a with
    | agg cs => simp [owns]
    | _ =>
      simp only [flatA, List.any_cons, Bool.or_eq_true] at h ⊢
      exact h.imp id flatA_owns
theorem frzOf_mono {mem mem' : List (Nat × Arr)} {as : List AV} {z : List (Nat × Arr)} (hm : as.any owns = true → ∀ id arr, get mem id = some arr → get mem' id = some arr) (h : frzOf mem as = some z) : frzOf mem' as = some z :=
  frzC_mono (fun h => hm (flatA_owns h)) h

theorem get_mem_keys {α : Type} {m : List (Nat × α)} {i : Nat} {a : α} (h : get m i = some a) : i ∈ m.map (·.1) := by
  induction m with
  | nil => cases h
  | cons p m ih =>
    obtain ⟨u, v⟩ := p
    rw [get_cons] at h
    split at h
    · rename_i e; simp [e]
    · simp [List.mem_cons]; right; simpa using ih h

theorem call_foot {R : CallRel} {s s' : AS} {g : FuncId} {as : List AV} {r : Res} (h : CallYields R s g as r) (hn : s'.nx = s.nx) (hm : ∀ id, id ∈ r.rd → get s'.mem id = get s.mem id) : ∃ rd, CallYields R s' g as { r with rd := rd } := by
  rcases h with ⟨as', v, h1, h2, h3⟩ | ⟨id, off, len, sz, xs, ys, h1, h2, h3, h4, h5, rfl⟩
  case inr => exact ⟨[id], .inr ⟨id, off, len, sz, xs, ys, h1, (hm id (by simp [mutRes])).trans h2, h3, h4, h5, by simp only [mutRes, hn]⟩⟩
  have hrd : r.rd = if as.any owns then s.mem.map (·.1) else [] := by
    rcases h3 with ⟨_, rfl⟩ | ⟨_, _, _, rfl⟩ <;> rfl
  have hm' : as.any owns = true → ∀ id arr, get s.mem id = some arr → get s'.mem id = some arr := by
    intro ho id arr hg
    rw [hm id (by rw [hrd, if_pos ho]; exact get_mem_keys hg), hg]
  refine ⟨if as.any owns then s'.mem.map (·.1) else [], .inl ⟨as', v, h1.mono hm', h2, ?_⟩⟩
  rcases h3 with ⟨q, rfl⟩ | ⟨z, hz, q, rfl⟩
  · exact .inl ⟨q, by simp [hn]⟩
  · exact .inr ⟨z, frzOf_mono hm' hz, q, by simp [hn]⟩

theorem callee_foot {s s' : AS} {c : Call} {x : FuncId × List AV} (h : callee s c = some x) (ho : ∀ y, y ∈ c.operands.toList → opr s' y = opr s y) : callee s' c = some x := by
  obtain ⟨cl, args, ts⟩ := c
  cases cl with
  | value f =>
    unfold callee at h ⊢
    simp only at h ⊢
    split at h
    · rename_i g first cap as h1 h2
      rw [ho f (by simp [Call.operands]), h1, oprs_foot (fun y hy => ho y (by simp [Call.operands]; right; simpa using hy)) h2]
      exact h
    · exact absurd h (by simp)
  | _ => exact absurd h (by simp [callee])

theorem yields_foot {P : Program} {R : CallRel} {s s' : AS} {o : Oper} {r : Res} (h : AYields P R o s r) (hn : s'.nx = s.nx) (ho : ∀ x, x ∈ o.op.operands.toList → opr s' x = opr s x)
    (hm : ∀ id, id ∈ r.rd → get s'.mem id = get s.mem id) : ∃ rd, AYields P R o s' { r with rd := rd } := by
  unfold AYields at h ⊢
  split at h
  · rename_i f args ts hop
    obtain ⟨x, hx, hy⟩ := h
    obtain ⟨rd, hy'⟩ := call_foot hy hn hm
    exact ⟨rd, x, callee_foot hx (fun y hy => ho y (by rw [hop]; exact hy)), hy'⟩
  · exact ⟨r.rd, ev_foot h hn ho hm⟩

/-! Numbers only grow. -/
theorem imp_le (n : Nat) (a : AV) : n ≤ (imp n a).2.2 := by
  cases a <;> first | exact imp1_le n _ | exact imps_le _ n
theorem call_nx {R : CallRel} {s : AS} {g : FuncId} {as : List AV} {r : Res} (h : CallYields R s g as r) : s.nx ≤ r.nx := by
  rcases h with ⟨as', v, h1, h2, ⟨_, rfl⟩ | ⟨z, hz, q, rfl⟩⟩ | ⟨id, off, len, sz, xs, ys, _, _, _, _, _, rfl⟩
  · exact Nat.le_refl _
  · exact imp_le _ _
  · exact Nat.le_refl _

theorem storeE_nx {P : Program} {s : AS} {t : TypeId} {p v : AV} {r : Res} (h : storeE P s t p v = some r) : s.nx ≤ r.nx := by
  unfold storeE at h
  repeat' split at h
  all_goals first | (obtain rfl := Option.some.inj h; exact Nat.le_refl _) | exact absurd h (by simp)
theorem buildSliceE_nx {P : Program} {s : AS} {t : TypeId} {len : Nat} {ps : List (Nat × AV)} {r : Res} (h : buildSliceE P s t len ps = some r) : s.nx ≤ r.nx := by
  unfold buildSliceE at h
  repeat' split at h
  all_goals first | (obtain rfl := Option.some.inj h; exact Nat.le_succ _) | exact absurd h (by simp)
theorem makeSliceE_nx {P : Program} {s : AS} {t : TypeId} {l c : AV} {r : Res} (h : makeSliceE P s t l c = some r) : s.nx ≤ r.nx := by
  unfold makeSliceE at h
  repeat' split at h
  all_goals first | (obtain rfl := Option.some.inj h; exact Nat.le_succ _) | exact absurd h (by simp)
theorem sliceE_nx {P : Program} {s : AS} {t : TypeId} {x : AV} {lo hi : Option AV} {r : Res} (h : sliceE P s t x lo hi = some r) : s.nx ≤ r.nx := by
  unfold sliceE at h
  repeat' split at h
  all_goals first | (obtain rfl := Option.some.inj h; exact Nat.le_refl _) | exact absurd h (by simp)
theorem indexAddrE_nx {P : Program} {s : AS} {t : TypeId} {x i : AV} {r : Res} (h : indexAddrE P s t x i = some r) : s.nx ≤ r.nx := by
  unfold indexAddrE indexSlE arrAddrE at h
  repeat' split at h
  all_goals first | (obtain rfl := Option.some.inj h; exact Nat.le_refl _) | exact absurd h (by simp)
theorem builtinE_nx {P : Program} {s : AS} {b : Builtin} {ts : List TypeId} {xs : List AV} {r : Res} (h : builtinE P s b ts xs = some r) : s.nx ≤ r.nx := by
  unfold builtinE at h
  split at h
  · unfold lenE at h
    repeat' split at h
    all_goals first | (obtain rfl := Option.some.inj h; exact Nat.le_refl _) | exact absurd h (by simp)
  · unfold appendE at h
    repeat' split at h
    all_goals first | (obtain rfl := Option.some.inj h; exact Nat.le_succ _) | exact absurd h (by simp)
  · unfold copyE at h
    repeat' split at h
    all_goals first | (obtain rfl := Option.some.inj h; exact Nat.le_refl _) | exact absurd h (by simp)
  · obtain ⟨m, _, rfl⟩ := Option.map_eq_some_iff.1 h; exact Nat.le_refl _
  · obtain ⟨m, _, rfl⟩ := Option.map_eq_some_iff.1 h; exact Nat.le_refl _
  · exact absurd h (by simp)
theorem ev_nx {P : Program} {o : Oper} {s : AS} {r : Res} (h : ev P o s = some r) : s.nx ≤ r.nx := by
  unfold ev at h
  split at h
  all_goals try (repeat' split at h)
  all_goals first
    | exact storeE_nx h
    | exact buildSliceE_nx h
    | exact makeSliceE_nx h
    | exact sliceE_nx h
    | exact indexAddrE_nx h
    | exact builtinE_nx h
    | (obtain rfl := Option.some.inj h; exact Nat.le_refl _)
    | (exfalso; simp at h; done)
    | (unfold allocE at h; (repeat' split at h); all_goals first | (obtain rfl := Option.some.inj h; exact Nat.le_succ _) | exact absurd h (by simp))
    | (unfold boxE at h; (repeat' split at h); all_goals first | (obtain rfl := Option.some.inj h; exact Nat.le_succ _) | exact absurd h (by simp))
    | (unfold buildE at h; (repeat' split at h); all_goals first | (obtain rfl := Option.some.inj h; exact Nat.le_refl _) | exact absurd h (by simp))
    | (unfold loadE at h; (repeat' split at h); all_goals first | (obtain rfl := Option.some.inj h; exact Nat.le_refl _) | exact absurd h (by simp))
    | (unfold convE at h; (repeat' split at h); all_goals first | (obtain rfl := Option.some.inj h; exact Nat.le_refl _) | exact absurd h (by simp))
    | (unfold fieldAddrE at h; (repeat' split at h); all_goals first | (obtain rfl := Option.some.inj h; exact Nat.le_refl _) | exact absurd h (by simp))
    | (unfold fieldE at h; (repeat' split at h); all_goals first | (obtain rfl := Option.some.inj h; exact Nat.le_refl _) | exact absurd h (by simp))
    | (unfold indexE at h; (repeat' split at h); all_goals first | (obtain rfl := Option.some.inj h; exact Nat.le_refl _) | exact absurd h (by simp))
theorem yields_nx {P : Program} {R : CallRel} {s : AS} {o : Oper} {r : Res} (h : AYields P R o s r) : s.nx ≤ r.nx := by
  unfold AYields at h
  split at h
  · obtain ⟨x, _, hy⟩ := h; exact call_nx hy
  · exact ev_nx h

/-! One step of a region. -/
def StepC (P : Program) (R : CallRel) (ops : Array Oper) (o : Oper) (s : AS) (x : Option Res) : Prop :=
  match o.guard, x with
  | none, some r => AYields P R o s r
  | some (j, want), some r => guardVal ops s j = some (some want) ∧ AYields P R o s r
  | some (j, want), none => ∃ b, guardVal ops s j = some b ∧ (b == some want) = false
  | none, none => False
def stp (o : Oper) (x : Option Res) (s : AS) : AS :=
  match x with
  | some r => s.put o.dst r
  | none => s.junk o.dst
def logOf : Option Res → List Nat × List Nat
  | some r => (r.rd, r.d.map (·.1))
  | none => ([], [])
def nxOf (s : AS) : Option Res → Nat
  | some r => r.nx
  | none => s.nx

theorem StepC.nx {P : Program} {R : CallRel} {ops : Array Oper} {o : Oper} {s : AS} {x : Option Res} (h : StepC P R ops o s x) : s.nx ≤ nxOf s x := by
  unfold StepC at h
  split at h
  · exact yields_nx h
  · exact yields_nx h.2
  · exact Nat.le_refl _
  · exact h.elim

def Trace (P : Program) (R : CallRel) (ops : Array Oper) : List Oper → AS → List (Option Res) → AS → Prop
  | [], s, xs, s' => xs = [] ∧ s' = s
  | o :: rest, s, xs, s' => ∃ x xs', xs = x :: xs' ∧ StepC P R ops o s x ∧ Trace P R ops rest (stp o x s) xs' s'

theorem awops_trace {P : Program} {R : CallRel} {ops : Array Oper} {K : AS → Log → Prop} : ∀ {l : List Oper} {s : AS} {lg : Log}, awops P R ops l s lg K →
    ∃ xs s', Trace P R ops l s xs s' ∧ K s' ((xs.map logOf).reverse ++ lg)
  | [], s, lg, h => ⟨[], s, ⟨rfl, rfl⟩, by simpa using h⟩
  | o :: rest, s, lg, h => by
    have done : ∀ (x : Option Res) (b : Log), StepC P R ops o s x → b = logOf x :: lg → awops P R ops rest (stp o x s) b K → ∃ xs s', Trace P R ops (o :: rest) s xs s' ∧ K s' ((xs.map logOf).reverse ++ lg) := by
      rintro x b hs rfl h
      obtain ⟨xs, s', ht, hk⟩ := awops_trace h
      exact ⟨x :: xs, s', ⟨x, xs, rfl, hs, ht⟩, by simpa using hk⟩
    unfold awops at h
    split at h
    · rename_i hg
      obtain ⟨r, hy, hk⟩ := aop_yields h
      exact done (some r) _ (by unfold StepC; rw [hg]; exact hy) rfl hk
    · rename_i j want hg
      unfold optK at h
      split at h
      · rename_i b hb
        unfold Br at h
        split at h
        · rename_i he
          obtain rfl : b = some want := by simpa using he
          obtain ⟨r, hy, hk⟩ := aop_yields h
          exact done (some r) _ (by unfold StepC; rw [hg]; exact ⟨hb, hy⟩) rfl hk
        · rename_i he
          exact done none _ (by unfold StepC; rw [hg]; exact ⟨b, hb, by simpa using he⟩) rfl h
      · exact h.elim
end Go.Ab
end

section
namespace Go.Ab
open Go.RowKit (Below)

theorem tm_put {E E' : Env} {n : Nat} {tm : List (Nat × AV)} {a : Act} {dst : Option Tmp} {v : AV} {x : Value} (hle : E.Le E') (hT : TmRel E tm a) (hn : a.tmps.size = n) (hd : ∀ d, dst = some d → d < n) (hr : Rep E' v x) :
    TmRel E' (dst.elim tm fun d => (d, v) :: tm) (a.put dst x) ∧ (a.put dst x).tmps.size = n ∧ (a.put dst x).defers = a.defers := by
  cases dst with
  | none => exact ⟨fun t u ht => by obtain ⟨y, h1, h2⟩ := hT t u ht; exact ⟨y, h1, h2.mono hle⟩, hn, rfl⟩
  | some d =>
    refine ⟨fun t u ht => ?_, by simpa [Act.put] using hn, rfl⟩
    simp only [Option.elim, get_cons] at ht
    split at ht
    · rename_i e
      subst e
      obtain rfl := Option.some.inj ht
      exact ⟨x, by simp only [Act.put, Array.getElem?_setIfInBounds]; simp [show d < a.tmps.size by rw [hn]; exact hd d rfl], hr⟩
    · rename_i e
      obtain ⟨y, h1, h2⟩ := hT t u ht
      exact ⟨y, by simp only [Act.put, Array.getElem?_setIfInBounds]; rw [if_neg e]; exact h1, h2.mono hle⟩

theorem good_put {E E' : Env} {n : Nat} {w0 : World} {okb : Nat → Prop} {s : AS} {a : Act} {dst : Option Tmp} {r : Res} {x : Value} (hG : GoodE E n w0 okb s a) (hS : Stepped E w0 okb s.mem s.nx r x E') (hd : ∀ d, dst = some d → d < n) :
    GoodE E' n w0 okb (s.put dst r) (a.put dst x) := by
  obtain ⟨hF, hD, hn, hT, hM⟩ := hG
  obtain ⟨h1, h2, h3⟩ := tm_put hS.le hT hn hd hS.rep
  cases dst <;> exact ⟨hS.frm, h3.trans hD, h2, h1, hS.mem⟩

theorem good_junk {E : Env} {n : Nat} {w0 : World} {okb : Nat → Prop} {s : AS} {a : Act} {dst : Option Tmp} (hG : GoodE E n w0 okb s a) (hd : ∀ d, dst = some d → d < n) :
    GoodE E n w0 okb (s.junk dst) (a.put dst undef) := by
  obtain ⟨hF, hD, hn, hT, hM⟩ := hG
  obtain ⟨h1, h2, h3⟩ := tm_put (.refl E) hT hn hd (.pure (.sc undef))
  cases dst <;> exact ⟨hF, h3.trans hD, h2, h1, hM⟩

theorem yielded_sound {E : Env} {ops : Array Oper} {s : AS} {a : Act} {j : Nat} {b : Option Bool} (hT : TmRel E s.tm a) (h : guardVal ops s j = some b) : yielded ops a.tmps j = b := by
  unfold guardVal at h
  unfold yielded
  split at h
  · rename_i d hd
    rw [hd]
    split at h
    · rename_i c hg
      obtain rfl := Option.some.inj h
      obtain ⟨x, h1, h2⟩ := hT d _ hg
      obtain rfl := h2.sc_inv
      simp [h1]
    · rename_i c hg
      obtain rfl := Option.some.inj h
      obtain ⟨x, h1, h2⟩ := hT d _ hg
      obtain rfl := h2.sc_inv
      simp [h1]
    · exact absurd h (by simp)
  · exact absurd h (by simp)

theorem stepC_sound {P : Program} {R : CallRel} (hR : RSound P R) {ops : Array Oper} {E : Env} {n : Nat} {w0 : World} {okb : Nat → Prop} {s : AS} {o : Oper} {i : Nat} {a : Act} {x : Option Res} (hi : ops[i]? = some o) (hG : GoodE E n w0 okb s a)
    (hc : StepC P R ops o s x) (hid : ∀ id, s.nx ≤ id → id < nxOf s x → ¬ E.al id) (hd : ∀ d, o.dst = some d → d < n) {K : Act → World → Prop} {Q : Exit → Act → World → Prop}
    (hK : ∀ E' a', GoodE E' n w0 okb (stp o x s) a' → (∀ id, E'.al id ↔ E.al id ∨ (s.nx ≤ id ∧ id < nxOf s x)) → K a' E'.w) : wpOp P ops Q i K a E.w := by
  obtain ⟨hF, hD, hn, hT, hM⟩ := id hG
  unfold wpOp
  rw [hi]
  simp only
  unfold StepC at hc
  split at hc
  · rename_i r hg
    rw [if_pos (by simp [Region.wanted, hg])]
    exact .inl (op_sound hR hF hM hT hc hid fun y E' hS => hK E' _ (good_put hG hS hd) hS.al)
  · rename_i j want r hg
    rw [if_pos (by simp [Region.wanted, hg, yielded_sound hT hc.1])]
    exact .inl (op_sound hR hF hM hT hc.2 hid fun y E' hS => hK E' _ (good_put hG hS hd) hS.al)
  · rename_i j want hg
    obtain ⟨b, hb, hne⟩ := hc
    rw [if_neg (by simp [Region.wanted, hg, yielded_sound hT hb]; simpa using hne)]
    exact hK E _ (good_junk hG hd) fun id => ⟨.inl, fun h => h.elim (fun h => h) (fun h => by simp only [nxOf] at h; omega)⟩
  · exact hc.elim

theorem stp_nx (o : Oper) (x : Option Res) (s : AS) : (stp o x s).nx = nxOf s x := by cases x <;> rfl

/-- A region in text order. -/
theorem text_sound {P : Program} {R : CallRel} (hR : RSound P R) {ops : Array Oper} {n : Nat} {w0 : World} {okb : Nat → Prop} {Q : Exit → Act → World → Prop} : ∀ {l : List Oper} {k : Nat} {s : AS} {xs : List (Option Res)} {s' : AS} {a : Act} {w : World},
    (∀ j o, l[j]? = some o → ops[k + j]? = some o) → (∀ o, o ∈ l → ∀ d, o.dst = some d → d < n) → Trace P R ops l s xs s' → Good n w0 okb s a w → (∀ a' w', Good n w0 okb s' a' w' → Q .normal a' w') →
    wpOps P ops Q (List.range' k l.length) a w
  | [], k, s, xs, s', a, w, _, _, ht, hg, hQ => by
    obtain ⟨_, rfl⟩ := ht
    exact hQ a w hg
  | o :: rest, k, s, xs, s', a, w, hl, hd, ht, hg, hQ => by
    obtain ⟨x, xs', rfl, hs, ht⟩ := ht
    obtain ⟨E, rfl, hal, hG⟩ := hg
    rw [List.length_cons, List.range'_succ, wpOps_cons]
    refine stepC_sound hR (hl 0 o rfl) hG hs (fun id h1 _ h => by have := hal id h; omega) (hd o List.mem_cons_self) fun E' a' hG' hal' => ?_
    refine text_sound hR (fun j o' h => ?_) (fun o' h => hd o' (List.mem_cons_of_mem _ h)) ht ⟨E', rfl, fun id h => ?_, hG'⟩ hQ
    · have := hl (j + 1) o' (by simpa using h)
      rw [← this]; congr 1; omega
    · rw [stp_nx]
      have := hs.nx
      rcases (hal' id).1 h with h | h
      · have := hal id h; omega
      · exact h.2
end Go.Ab
end

section
namespace Go.Ab
open Go.RowKit (Below)

def stL : List (Oper × Option Res) → (Nat → Bool) → Nat → AS → AS
  | [], _, _, s => s
  | (o, x) :: zs, L, k, s => stL zs L (k + 1) (if L k = true then stp o x s else s)

def Same (s s' : AS) : Prop := (∀ t, get s.tm t = get s'.tm t) ∧ ∀ i, get s.mem i = get s'.mem i
theorem Same.refl (s : AS) : Same s s := ⟨fun _ => rfl, fun _ => rfl⟩
theorem Same.trans {a b c : AS} (h : Same a b) (k : Same b c) : Same a c := ⟨fun t => (h.1 t).trans (k.1 t), fun i => (h.2 i).trans (k.2 i)⟩
theorem Same.symm {a b : AS} (h : Same a b) : Same b a := ⟨fun t => (h.1 t).symm, fun i => (h.2 i).symm⟩

def rvOf : Option Res → AV
  | some r => r.v
  | none => .sc undef
def rmOf : Option Res → List (Nat × Arr)
  | some r => r.d
  | none => []

theorem stp_tm (o : Oper) (x : Option Res) (s : AS) (t : Nat) : get (stp o x s).tm t = if o.dst = some t then some (rvOf x) else get s.tm t := by
  cases hd : o.dst with
  | none => cases x <;> simp [stp, AS.put, AS.junk, hd]
  | some d => cases x <;> simp [stp, AS.put, AS.junk, hd, get_cons, rvOf]
theorem stp_mem (o : Oper) (x : Option Res) (s : AS) (i : Nat) : get (stp o x s).mem i = match get (rmOf x) i with | some v => some v | none => get s.mem i := by
  cases x with
  | none => rfl
  | some r =>
    show get (r.d ++ s.mem) i = _
    rw [get_append]
    show _ = match get r.d i with | some v => some v | none => get s.mem i
    cases get r.d i <;> rfl

theorem stp_same {o : Oper} {x : Option Res} {s s' : AS} (h : Same s s') : Same (stp o x s) (stp o x s') :=
  ⟨fun t => by rw [stp_tm, stp_tm, h.1 t], fun i => by rw [stp_mem, stp_mem, h.2 i]⟩
theorem stL_same : ∀ {zs : List (Oper × Option Res)} {L : Nat → Bool} {k : Nat} {s s' : AS}, Same s s' → Same (stL zs L k s) (stL zs L k s')
  | [], _, _, _, _, h => h
  | (o, x) :: zs, L, k, s, s', h => by
    unfold stL
    split
    · exact stL_same (stp_same h)
    · exact stL_same h

def Aparted (o o2 : Oper) (x x2 : Option Res) : Prop := (∀ d, o.dst = some d → o2.dst ≠ some d) ∧ ∀ i v, get (rmOf x) i = some v → get (rmOf x2) i = none

theorem stp_comm {o o2 : Oper} {x x2 : Option Res} {s : AS} (h : Aparted o o2 x x2) : Same (stp o2 x2 (stp o x s)) (stp o x (stp o2 x2 s)) := by
  refine ⟨fun t => ?_, fun i => ?_⟩
  · rw [stp_tm, stp_tm, stp_tm, stp_tm]
    by_cases h1 : o.dst = some t
    · simp [h1, h.1 t h1]
    · rw [if_neg h1, if_neg h1]
  · rw [stp_mem, stp_mem, stp_mem, stp_mem]
    cases h1 : get (rmOf x) i with
    | none => rfl
    | some v => rw [h.2 i v h1]

theorem stL_push {o : Oper} {x : Option Res} : ∀ {zs : List (Oper × Option Res)} {L : Nat → Bool} {k : Nat} {s : AS}, (∀ j o2 x2, zs[j]? = some (o2, x2) → L (k + j) = true → Aparted o o2 x x2) →
    Same (stL zs L k (stp o x s)) (stp o x (stL zs L k s))
  | [], _, _, s, _ => .refl _
  | (o2, x2) :: zs, L, k, s, h => by
    have hr : ∀ j o3 x3, zs[j]? = some (o3, x3) → L (k + 1 + j) = true → Aparted o o3 x x3 := fun j o3 x3 hj hL => h (j + 1) o3 x3 (by simpa using hj) (by rw [← hL]; congr 1; omega)
    unfold stL
    split
    · rename_i hL
      exact (stL_same (stp_comm (h 0 o2 x2 rfl hL))).trans (stL_push hr)
    · exact stL_push hr

theorem stL_congr : ∀ {zs : List (Oper × Option Res)} {L L' : Nat → Bool} {k : Nat} {s : AS}, (∀ j, j < zs.length → L (k + j) = L' (k + j)) → stL zs L k s = stL zs L' k s
  | [], _, _, _, _, _ => rfl
  | (o, x) :: zs, L, L', k, s, h => by
    unfold stL
    rw [show L k = L' k from h 0 (by simp)]
    exact stL_congr fun j hj => by
      have := h (j + 1) (by simpa using hj)
      rwa [show k + (j + 1) = k + 1 + j by omega] at this

theorem stL_insert {o : Oper} {x : Option Res} : ∀ {zs : List (Oper × Option Res)} {i : Nat} {L L' : Nat → Bool} {k : Nat} {s : AS}, zs[i]? = some (o, x) → L (k + i) = false → L' (k + i) = true → (∀ j, j ≠ k + i → L' j = L j) →
    (∀ j o2 x2, i < j → zs[j]? = some (o2, x2) → L (k + j) = true → Aparted o o2 x x2) → Same (stL zs L' k s) (stp o x (stL zs L k s))
  | [], i, _, _, _, _, h, _, _, _, _ => by simp at h
  | (o1, x1) :: zs, 0, L, L', k, s, h, h0, h1, he, ha => by
    obtain ⟨rfl, rfl⟩ : o1 = o ∧ x1 = x := by simpa using h
    have e0 : L k = false := h0
    have e1 : L' k = true := h1
    unfold stL
    rw [e0, e1]
    simp only [Bool.false_eq_true, if_false, if_true]
    rw [stL_congr (L := L') (L' := L) fun j _ => he _ (by omega)]
    exact stL_push fun j o2 x2 hj hL => ha (j + 1) o2 x2 (by omega) (by simpa using hj) (by rw [← hL]; congr 1; omega)
  | (o1, x1) :: zs, i + 1, L, L', k, s, h, h0, h1, he, ha => by
    unfold stL
    rw [he k (by omega)]
    exact stL_insert (i := i) (by simpa using h) (by rw [← h0]; congr 1; omega) (by rw [← h1]; congr 1; omega) (fun j hj => he j (by omega))
      fun j o2 x2 hj hz hL => ha (j + 1) o2 x2 (by omega) (by simpa using hz) (by rw [← hL]; congr 1; omega)

theorem stL_tm {t : Nat} : ∀ {zs : List (Oper × Option Res)} {L L' : Nat → Bool} {k : Nat} {s s' : AS}, (∀ j o x, zs[j]? = some (o, x) → L (k + j) ≠ L' (k + j) → o.dst ≠ some t) → get s.tm t = get s'.tm t →
    get (stL zs L k s).tm t = get (stL zs L' k s').tm t
  | [], _, _, _, _, _, _, h => h
  | (o, x) :: zs, L, L', k, s, s', hn, h => by
    unfold stL
    refine stL_tm (fun j o2 x2 hj hL => hn (j + 1) o2 x2 (by simpa using hj) (by rwa [show k + (j + 1) = k + 1 + j by omega])) ?_
    have h0 := hn 0 o x rfl
    by_cases h1 : L k = true <;> by_cases h2 : L' k = true
    · rw [if_pos h1, if_pos h2, stp_tm, stp_tm, h]
    · rw [if_pos h1, if_neg h2, stp_tm, if_neg (h0 (by simp only [Nat.add_zero]; rw [h1]; exact fun e => h2 e.symm)), h]
    · rw [if_neg h1, if_pos h2, stp_tm, if_neg (h0 (by simp only [Nat.add_zero]; rw [h2]; exact h1)), h]
    · rw [if_neg h1, if_neg h2, h]

theorem stL_mem {t : Nat} : ∀ {zs : List (Oper × Option Res)} {L L' : Nat → Bool} {k : Nat} {s s' : AS}, (∀ j o x, zs[j]? = some (o, x) → L (k + j) ≠ L' (k + j) → get (rmOf x) t = none) → get s.mem t = get s'.mem t →
    get (stL zs L k s).mem t = get (stL zs L' k s').mem t
  | [], _, _, _, _, _, _, h => h
  | (o, x) :: zs, L, L', k, s, s', hn, h => by
    unfold stL
    refine stL_mem (fun j o2 x2 hj hL => hn (j + 1) o2 x2 (by simpa using hj) (by rwa [show k + (j + 1) = k + 1 + j by omega])) ?_
    have h0 := hn 0 o x rfl
    by_cases h1 : L k = true <;> by_cases h2 : L' k = true
    · rw [if_pos h1, if_pos h2, stp_mem, stp_mem, h]
    · rw [if_pos h1, if_neg h2, stp_mem, h0 (by simp only [Nat.add_zero]; rw [h1]; exact fun e => h2 e.symm), h]
    · rw [if_neg h1, if_pos h2, stp_mem, h0 (by simp only [Nat.add_zero]; rw [h2]; exact h1), h]
    · rw [if_neg h1, if_neg h2, h]

theorem stL_none : ∀ {zs : List (Oper × Option Res)} {L : Nat → Bool} {k : Nat} {s : AS}, (∀ j, k ≤ j → L j = false) → stL zs L k s = s
  | [], _, _, _, _ => rfl
  | (o, x) :: zs, L, k, s, h => by
    unfold stL
    rw [if_neg (by rw [h k (Nat.le_refl _)]; simp)]
    exact stL_none fun j hj => h j (by omega)

/-- Behind the first i operations. -/
theorem stL_succ {o : Oper} {x : Option Res} : ∀ {zs : List (Oper × Option Res)} {i k : Nat} {s : AS}, zs[i]? = some (o, x) →
    stL zs (fun q => decide (q < k + i + 1)) k s = stp o x (stL zs (fun q => decide (q < k + i)) k s)
  | [], i, _, _, h => by simp at h
  | (o1, x1) :: zs, 0, k, s, h => by
    obtain ⟨rfl, rfl⟩ : o1 = o ∧ x1 = x := by simpa using h
    unfold stL
    rw [if_pos (by simp), if_neg (by simp), stL_none (by intro j hj; simp only [decide_eq_false_iff_not]; omega), stL_none (by intro j hj; simp only [decide_eq_false_iff_not]; omega)]
  | (o1, x1) :: zs, i + 1, k, s, h => by
    unfold stL
    rw [if_pos (by simp; omega), if_pos (by simp)]
    have := stL_succ (k := k + 1) (s := stp o1 x1 s) (show zs[i]? = some (o, x) by simpa using h)
    rw [show k + (i + 1) + 1 = k + 1 + i + 1 by omega, show k + (i + 1) = k + 1 + i by omega]
    exact this

theorem trace_at {P : Program} {R : CallRel} {ops : Array Oper} : ∀ {l : List Oper} {k : Nat} {s : AS} {xs : List (Option Res)} {s' : AS}, Trace P R ops l s xs s' →
    (l.zip xs).map (·.1) = l ∧ (l.zip xs).map (·.2) = xs ∧ (∀ j o x, (l.zip xs)[j]? = some (o, x) → StepC P R ops o (stL (l.zip xs) (fun q => decide (q < k + j)) k s) x) ∧ stL (l.zip xs) (fun q => decide (q < k + l.length)) k s = s'
  | [], k, s, xs, s', h => by
    obtain ⟨rfl, rfl⟩ := h
    exact ⟨rfl, rfl, by simp, rfl⟩
  | o :: rest, k, s, xs, s', h => by
    obtain ⟨x, xs', rfl, hs, ht⟩ := h
    obtain ⟨h1, h2, h3, h4⟩ := trace_at (k := k + 1) ht
    refine ⟨by simp [h1], by simp [h2], fun j o2 x2 hj => ?_, ?_⟩
    · cases j with
      | zero =>
        obtain ⟨rfl, rfl⟩ : o = o2 ∧ x = x2 := by simpa using hj
        rw [stL_none (by simp)]
        exact hs
      | succ j =>
        have := h3 j o2 x2 (by simpa using hj)
        simp only [List.zip_cons_cons, stL]
        rw [if_pos (by simp), show k + (j + 1) = k + 1 + j by omega]
        exact this
    · simp only [List.zip_cons_cons, stL, List.length_cons]
      rw [if_pos (by simp), stL_congr (L' := fun q => decide (q < k + 1 + rest.length)) (fun j _ => by simp only [decide_eq_decide]; omega)]
      exact h4

theorem opr_agree {s s' : AS} {x : Operand} (h : ∀ t, x = .tmp t → get s'.tm t = get s.tm t) : opr s' x = opr s x := by
  cases x with
  | tmp t => exact h t rfl
  | _ => rfl

/-- The same operation with the same effect where what it looks at is the same. -/
theorem stepC_foot {P : Program} {R : CallRel} {ops : Array Oper} {o : Oper} {s s' : AS} {x : Option Res} (h : StepC P R ops o s x) (hn : s'.nx = s.nx) (ht : ∀ t, t ∈ o.looksAt ops → get s'.tm t = get s.tm t)
    (hm : ∀ id, id ∈ (logOf x).1 → get s'.mem id = get s.mem id) : ∃ x', StepC P R ops o s' x' ∧ (∀ s, stp o x' s = stp o x s) ∧ ∀ s, nxOf s x' = nxOf s x := by
  have ho : ∀ y, y ∈ o.op.operands.toList → opr s' y = opr s y := fun y hy => opr_agree fun t e => ht t (by
    subst e
    unfold Oper.looksAt
    exact List.mem_append.2 (.inl (List.mem_filterMap.2 ⟨_, hy, rfl⟩)))
  have hgd : ∀ j want, o.guard = some (j, want) → guardVal ops s' j = guardVal ops s j := by
    intro j want hg
    unfold guardVal
    cases hd : (ops[j]?).bind (·.dst) with
    | none => rfl
    | some d => simp only; rw [ht d (by unfold Oper.looksAt; rw [hg]; simp [hd])]
  unfold StepC at h
  split at h
  · rename_i r hg
    obtain ⟨rd, hy⟩ := yields_foot h hn ho hm
    exact ⟨some { r with rd := rd }, by unfold StepC; rw [hg]; exact hy, fun _ => rfl, fun _ => rfl⟩
  · rename_i j want r hg
    obtain ⟨rd, hy⟩ := yields_foot h.2 hn ho hm
    exact ⟨some { r with rd := rd }, by unfold StepC; rw [hg]; exact ⟨(hgd j want hg).trans h.1, hy⟩, fun _ => rfl, fun _ => rfl⟩
  · rename_i j want hg
    obtain ⟨b, hb, hne⟩ := h
    exact ⟨none, by unfold StepC; rw [hg]; exact ⟨b, (hgd j want hg).trans hb, hne⟩, fun _ => rfl, fun _ => rfl⟩
  · exact h.elim

theorem GoodE.same {E : Env} {n : Nat} {w0 : World} {okb : Nat → Prop} {s s' : AS} {a : Act} (h : GoodE E n w0 okb s a) (hs : Same s s') : GoodE E n w0 okb s' a := by
  obtain ⟨hF, hD, hn, hT, hM⟩ := h
  exact ⟨hF, hD, hn, fun t v ht => hT t v ((hs.1 t).trans ht), ⟨fun id arr hg => hM.arr id arr ((hs.2 id).trans hg), fun id id' arr arr' b o z o' z' h1 h2 => hM.far id id' arr arr' b o z o' z' ((hs.2 id).trans h1) ((hs.2 id').trans h2)⟩⟩
end Go.Ab
end

section
namespace Go.Ab
open Go.RowKit (Below)

/-! What 'before' says. -/
def befOne (acc : Array Nat) (o : Oper) : Nat := o.after.foldl (fun s e => if Region.binds .any e then s ||| 2 ^ e.on ||| acc.getD e.on 0 else s) 0

theorem fold_bit {acc : Array Nat} {i : Nat} : ∀ {l : List Edge} {s : Nat}, (l.foldl (fun s e => if Region.binds .any e then s ||| 2 ^ e.on ||| acc.getD e.on 0 else s) s).testBit i = true →
    s.testBit i = true ∨ ∃ e, e ∈ l ∧ Region.binds .any e = true ∧ (e.on = i ∨ (acc.getD e.on 0).testBit i = true)
  | [], s, h => .inl h
  | e :: l, s, h => by
    rw [List.foldl_cons] at h
    rcases fold_bit h with h | ⟨e', h1, h2⟩
    · split at h
      · rename_i hb
        rw [Nat.testBit_or, Nat.testBit_or, Nat.testBit_two_pow] at h
        simp only [Bool.or_eq_true, decide_eq_true_eq] at h
        rcases h with (h | h) | h
        · exact .inl h
        · exact .inr ⟨e, by simp, hb, .inl h⟩
        · exact .inr ⟨e, by simp, hb, .inr h⟩
      · exact .inl h
    · exact .inr ⟨e', by simp [h1], h2⟩

theorem bef_fold : ∀ {l : List Oper} {acc : Array Nat}, (l.foldl (fun acc o => acc.push (befOne acc o)) acc).size = acc.size + l.length ∧ (∀ k, k < acc.size → (l.foldl (fun acc o => acc.push (befOne acc o)) acc)[k]? = acc[k]?) ∧
    ∀ j o, l[j]? = some o → ∃ acc' : Array Nat, acc'.size = acc.size + j ∧ (∀ k, k < acc.size + j → (l.foldl (fun acc o => acc.push (befOne acc o)) acc)[k]? = acc'[k]?) ∧ (l.foldl (fun acc o => acc.push (befOne acc o)) acc)[acc.size + j]? = some (befOne acc' o)
  | [], acc => ⟨rfl, fun _ _ => rfl, by simp⟩
  | o :: l, acc => by
    obtain ⟨h1, h2, h3⟩ := bef_fold (l := l) (acc := acc.push (befOne acc o))
    simp only [List.foldl_cons]
    refine ⟨by rw [h1]; simp; omega, fun k hk => ?_, fun j o2 hj => ?_⟩
    · rw [h2 k (by simp; omega), Array.getElem?_push, if_neg (by omega)]
    · cases j with
      | zero =>
        obtain rfl : o = o2 := by simpa using hj
        exact ⟨acc, rfl, fun k hk => by rw [h2 k (by simp; omega), Array.getElem?_push, if_neg (by omega)], by rw [h2 _ (by simp), Array.getElem?_push, if_pos (by omega)]⟩
      | succ j =>
        obtain ⟨acc', q1, q2, q3⟩ := h3 j o2 (by simpa using hj)
        rw [Array.size_push] at q1 q2 q3
        exact ⟨acc', by omega, fun k hk => q2 k (by omega), by rw [← q3]; congr 1; omega⟩

theorem before_edge {ops : Array Oper} {j i : Nat} {o : Oper} (ho : ops[j]? = some o) (h : ((Region.before ops).getD j 0).testBit i = true) :
    ∃ e, e ∈ o.after ∧ Region.binds .any e = true ∧ (e.on = i ∨ (e.on < j ∧ ((Region.before ops).getD e.on 0).testBit i = true)) := by
  have e0 : Region.before ops = ops.toList.foldl (fun acc o => acc.push (befOne acc o)) #[] := by
    unfold Region.before befOne
    rw [← Array.foldl_toList]
  obtain ⟨_, _, h3⟩ := bef_fold (l := ops.toList) (acc := #[])
  obtain ⟨acc', q1, q2, q3⟩ := h3 j o (by simpa using ho)
  simp only [List.size_toArray, List.length_nil, Nat.zero_add] at q1 q2 q3
  rw [← e0] at q2 q3
  rw [Array.getD_eq_getD_getElem?, q3] at h
  simp only [Option.getD_some, befOne] at h
  rw [← Array.foldl_toList] at h
  rcases fold_bit h with h | ⟨e, he, hb, h⟩
  · simp at h
  · refine ⟨e, by simpa using he, hb, h.imp id fun h => ?_⟩
    have hlt : e.on < j := by
      apply Classical.byContradiction
      intro hc
      rw [Array.getD_eq_getD_getElem?, Array.getElem?_eq_none (by omega)] at h
      simp at h
    refine ⟨hlt, ?_⟩
    rw [Array.getD_eq_getD_getElem?, q2 _ hlt, ← Array.getD_eq_getD_getElem?]
    exact h

def Closed (ops : Array Oper) (L : Nat → Bool) : Prop := ∀ j o, ops[j]? = some o → L j = true → ∀ e, e ∈ o.after → Region.binds .any e = true → L e.on = true

theorem closed_before {ops : Array Oper} {L : Nat → Bool} (hc : Closed ops L) : ∀ (j i : Nat) (o : Oper), ops[j]? = some o → (∀ e, e ∈ o.after → Region.binds .any e = true → L e.on = true) → ((Region.before ops).getD j 0).testBit i = true → L i = true := by
  intro j
  induction j using Nat.strongRecOn with
  | _ j ih =>
    intro i o ho hL h
    obtain ⟨e, he, hb, rfl | ⟨hlt, h⟩⟩ := before_edge ho h
    · exact hL e he hb
    · obtain ⟨o2, ho2⟩ : ∃ o2, ops[e.on]? = some o2 := ⟨_, Array.getElem?_eq_getElem (by have := (Array.getElem?_eq_some_iff.1 ho).1; omega)⟩
      exact ih e.on hlt i o2 ho2 (hc e.on o2 ho2 (hL e he hb)) h

theorem tmpsOk_spec {ops : Array Oper} (h : tmpsOk ops = true) {i j : Nat} {x y : Oper} (hi : ops[i]? = some x) (hj : ops[j]? = some y) (hij : i < j) : ((Region.before ops).getD j 0).testBit i = true ∨ x.apart ops y = true := by
  unfold tmpsOk at h
  simp only [List.all_eq_true] at h
  have := h (x, i) (List.mem_zipIdx_iff_getElem?.2 (by simpa using hi)) (y, j) (List.mem_zipIdx_iff_getElem?.2 (by simpa using hj))
  simpa [hij] using this
theorem noConf_spec {b : Array Nat} {xs : List (Option Res)} (h : noConf b ((xs.map logOf).reverse ++ []) = true) {i j : Nat} {x y : Option Res} (hi : xs[i]? = some x) (hj : xs[j]? = some y) (hij : i < j) : (b.getD j 0).testBit i = true ∨ clash (logOf x) (logOf y) = false := by
  unfold noConf at h
  simp only [List.append_nil, List.reverse_reverse, List.all_eq_true] at h
  have := h (logOf x, i) (List.mem_zipIdx_iff_getElem?.2 (by simp [hi])) (logOf y, j) (List.mem_zipIdx_iff_getElem?.2 (by simp [hj]))
  simpa [hij] using this
theorem ordOk_spec {ops : Array Oper} (h : ordOk ops = true) {j : Nat} {o : Oper} (hj : ops[j]? = some o) {e : Edge} (he : e ∈ o.after) (hb : Region.binds .any e = true) : e.on < j := by
  unfold ordOk at h
  simp only [List.all_eq_true] at h
  have := h (o, j) (List.mem_zipIdx_iff_getElem?.2 (by simpa using hj))
  have := (Array.all_eq_true'.1 this) e he
  simpa [hb] using this

theorem clash_spec {x y : List Nat × List Nat} (h : clash x y = false) : (∀ i, i ∈ x.2 → i ∉ y.1 ∧ i ∉ y.2) ∧ ∀ i, i ∈ y.2 → i ∉ x.1 := by
  unfold clash at h
  simp only [Bool.or_eq_false_iff, List.any_eq_false, Bool.or_eq_true, List.contains_iff_mem, not_or] at h
  exact ⟨fun i hi => h.1 i hi, fun i hi => h.2 i hi⟩

theorem rm_none {x : Option Res} {i : Nat} (h : i ∉ (logOf x).2) : get (rmOf x) i = none := by
  cases hg : get (rmOf x) i with
  | none => rfl
  | some a =>
    refine absurd (get_mem_keys hg) ?_
    cases x with
    | none => simp [rmOf]
    | some r => exact h
theorem rm_some {x : Option Res} {i : Nat} {a : Arr} (h : get (rmOf x) i = some a) : i ∈ (logOf x).2 := by
  have := get_mem_keys h
  cases x with
  | none => exact this
  | some r => exact this

theorem count_set {l : List Bool} {i : Nat} (h : l[i]? = some false) : (l.set i true).count false + 1 = l.count false := by
  induction l generalizing i with
  | nil => simp at h
  | cons b l ih =>
    cases i with
    | zero =>
      obtain rfl : b = false := by simpa using h
      simp
    | succ i =>
      have := ih (i := i) (by simpa using h)
      simp only [List.set_cons_succ, List.count_cons]
      omega
end Go.Ab
end

section
namespace Go.Ab
open Go.RowKit (Below)

theorem draw_sound {P : Program} {R : CallRel} (hR : RSound P R) {ops : Array Oper} {n : Nat} {w0 : World} {okb : Nat → Prop} {Q : Exit → Act → World → Prop} {s0 s' : AS} {zs : List (Oper × Option Res)} (hz1 : zs.map (·.1) = ops.toList)
    (hst : ∀ (i : Nat) (o : Oper) (x : Option Res), zs[i]? = some (o, x) → StepC P R ops o (stL zs (fun q => decide (q < i)) 0 s0) x) (hend : stL zs (fun q => decide (q < ops.size)) 0 s0 = s')
    (hord : ordOk ops = true) (htm : tmpsOk ops = true) (hnc : noConf (Region.before ops) (((zs.map (·.2)).map logOf).reverse ++ []) = true) (hd : ∀ o, o ∈ ops.toList → ∀ d, o.dst = some d → d < n)
    (hQ : ∀ a' w', Good n w0 okb s' a' w' → Q .normal a' w') : ∀ (fuel : Nat) (listed : Array Bool) (a : Act) (E : Env), listed.size = ops.size → listed.toList.count false = fuel → Closed ops (fun i => listed.getD i false) →
    GoodE E n w0 okb (stL zs (fun i => listed.getD i false) 0 s0) a →
    (∀ id, E.al id → id < s0.nx ∨ ∃ i, listed.getD i false = true ∧ i < zs.length ∧ (stL zs (fun q => decide (q < i)) 0 s0).nx ≤ id ∧ id < (stL zs (fun q => decide (q < i + 1)) 0 s0).nx) →
    wpAny P .any ops Q fuel listed a E.w := by
  have hlen : zs.length = ops.size := by have := congrArg List.length hz1; simpa using this
  have opAt : ∀ (i : Nat) (o : Oper) (x : Option Res), zs[i]? = some (o, x) → ops[i]? = some o := by
    intro i o x h
    have : (zs.map (·.1))[i]? = some o := by simp [h]
    rw [hz1] at this
    simpa using this
  have xAt : ∀ (i : Nat) (o : Oper) (x : Option Res), zs[i]? = some (o, x) → (zs.map (·.2))[i]? = some x := fun i o x h => by simp [h]
  have zAt : ∀ (i : Nat), i < zs.length → ∃ o x, zs[i]? = some (o, x) := fun i h => ⟨zs[i].1, zs[i].2, by rw [List.getElem?_eq_getElem h]⟩
  have hsucc : ∀ (i : Nat) (o : Oper) (x : Option Res), zs[i]? = some (o, x) → stL zs (fun q => decide (q < i + 1)) 0 s0 = stp o x (stL zs (fun q => decide (q < i)) 0 s0) := by
    intro i o x h
    have := stL_succ (k := 0) (s := s0) h
    rw [stL_congr (L' := fun q => decide (q < 0 + i + 1)) (fun j _ => by simp), this, stL_congr (L := fun q => decide (q < i)) (L' := fun q => decide (q < 0 + i)) (fun j _ => by simp)]
  have hnx1 : ∀ i, i < zs.length → (stL zs (fun q => decide (q < i)) 0 s0).nx ≤ (stL zs (fun q => decide (q < i + 1)) 0 s0).nx := by
    intro i hi
    obtain ⟨o, x, hz⟩ := zAt i hi
    rw [hsucc i o x hz, stp_nx]
    exact (hst i o x hz).nx
  have hnx : ∀ j i, i ≤ j → j ≤ zs.length → (stL zs (fun q => decide (q < i)) 0 s0).nx ≤ (stL zs (fun q => decide (q < j)) 0 s0).nx := by
    intro j
    induction j with
    | zero => intro i hi _; obtain rfl : i = 0 := by omega
              exact Nat.le_refl _
    | succ j ih =>
      intro i hi hj
      by_cases h : i = j + 1
      · subst h; exact Nat.le_refl _
      · exact Nat.le_trans (ih i (by omega) (by omega)) (hnx1 j (by omega))
  have h00 : (stL zs (fun q => decide (q < 0)) 0 s0) = s0 := stL_none (by simp)
  have hnx0 : ∀ j, j ≤ zs.length → s0.nx ≤ (stL zs (fun q => decide (q < j)) 0 s0).nx := fun j hj => by
    have := hnx j 0 (by omega) hj
    rwa [h00] at this
  have finish : ∀ (listed : Array Bool) (a : Act) (E : Env), (∀ j, j < ops.size → listed.getD j false = true) → GoodE E n w0 okb (stL zs (fun i => listed.getD i false) 0 s0) a →
      (∀ id, E.al id → id < s0.nx ∨ ∃ i, listed.getD i false = true ∧ i < zs.length ∧ (stL zs (fun q => decide (q < i)) 0 s0).nx ≤ id ∧ id < (stL zs (fun q => decide (q < i + 1)) 0 s0).nx) → Q .normal a E.w := by
    intro listed a E hall hG hal
    have e : stL zs (fun i => listed.getD i false) 0 s0 = s' := by
      rw [← hend]
      exact stL_congr fun j hj => by simp only [Nat.zero_add]; rw [hall j (by omega)]; simp; omega
    rw [e] at hG
    refine hQ a E.w ⟨E, rfl, fun id h => ?_, hG⟩
    rw [← hend, ← hlen]
    rcases hal id h with h | ⟨i, _, hi, _, h⟩
    · have := hnx0 zs.length (Nat.le_refl _); omega
    · have := hnx zs.length (i + 1) (by omega) (Nat.le_refl _); omega
  intro fuel
  induction fuel with
  | zero =>
    intro listed a E hsz hcnt hcl hG hal
    have hall : ∀ j, j < ops.size → listed.getD j false = true := by
      intro j hj
      have hj' : j < listed.size := by omega
      cases hb : listed[j] with
      | true => simp [Array.getD, hj', hb]
      | false =>
        have : false ∈ listed.toList := by rw [← hb]; simp
        have := List.count_pos_iff.2 this
        omega
    refine ⟨?_, finish listed a E hall hG hal⟩
    cases hr : Region.ready .any ops listed with
    | nil => rfl
    | cons j l =>
      obtain ⟨h1, o, ho, _⟩ := mem_ready.1 (show j ∈ Region.ready .any ops listed by rw [hr]; simp)
      have hlt := (Array.getElem?_eq_some_iff.1 ho).1
      have h2 := hall j hlt
      have hj' : j < listed.size := by omega
      simp [Array.getD, hj'] at h1 h2
      rw [h1] at h2; cases h2
  | succ fuel ih =>
    intro listed a E hsz hcnt hcl hG hal
    refine ⟨fun hr => finish listed a E ?_ hG hal, fun i hi => ?_⟩
    · intro j
      induction j using Nat.strongRecOn with
      | _ j ihj =>
        intro hj
        apply Classical.byContradiction
        intro hc
        obtain ⟨o, ho⟩ : ∃ o, ops[j]? = some o := ⟨_, Array.getElem?_eq_getElem hj⟩
        have : j ∈ Region.ready .any ops listed := by
          refine mem_ready.2 ⟨?_, o, ho, fun e he hb => ihj e.on (ordOk_spec hord ho he hb) (by have := ordOk_spec hord ho he hb; omega)⟩
          have hj' : j < listed.size := by omega
          simpa [Array.getD, hj'] using hc
        rw [hr] at this
        cases this
    · obtain ⟨hun, o, ho, hedges⟩ := mem_ready.1 hi
      have hlt : i < ops.size := (Array.getElem?_eq_some_iff.1 ho).1
      have hli : i < listed.size := by omega
      have hun' : listed.getD i false = false := by simpa [Array.getD, hli] using hun
      obtain ⟨o', x, hz⟩ := zAt i (by omega)
      obtain rfl : o' = o := by have := opAt i o' x hz; rw [ho] at this; exact (Option.some.inj this).symm
      -- who is before i is listed; whom i is before is not
      have bef1 : ∀ j, ((Region.before ops).getD i 0).testBit j = true → listed.getD j false = true := fun j h => closed_before hcl i j o' ho hedges h
      have bef2 : ∀ (j : Nat) (oj : Oper), ops[j]? = some oj → listed.getD j false = true → ((Region.before ops).getD j 0).testBit i ≠ true := by
        intro j oj hj hlj h
        have := closed_before hcl j i oj hj (hcl j oj hj hlj) h
        rw [hun'] at this; cases this
      -- what differs from the state in text order does not matter to i
      have differ : ∀ (j : Nat) (oj : Oper) (xj : Option Res), zs[j]? = some (oj, xj) → decide (0 + j < i) ≠ listed.getD (0 + j) false → (∀ d, oj.dst = some d → d ∉ o'.looksAt ops) ∧ ∀ id, id ∈ (logOf xj).2 → id ∉ (logOf x).1 := by
        intro j oj xj hj hne
        simp only [Nat.zero_add] at hne
        by_cases hji : j < i
        · have hlj : listed.getD j false = false := by
            cases hb : listed.getD j false with
            | false => rfl
            | true => rw [hb] at hne; simp [hji] at hne
          have nb : ((Region.before ops).getD i 0).testBit j ≠ true := fun h => by rw [bef1 j h] at hlj; cases hlj
          refine ⟨(Oper.apart_spec ((tmpsOk_spec htm (opAt j oj xj hj) ho hji).resolve_left nb)).1, fun id hid => ?_⟩
          exact ((clash_spec ((noConf_spec hnc (xAt j oj xj hj) (xAt i o' x hz) hji).resolve_left nb)).1 id hid).1
        · have hlj : listed.getD j false = true := by
            cases hb : listed.getD j false with
            | true => rfl
            | false => rw [hb] at hne; simp [hji] at hne
          have hji' : i < j := by
            rcases Nat.lt_or_ge i j with h | h
            · exact h
            · obtain rfl : j = i := by omega
              rw [hun'] at hlj; cases hlj
          have nb := bef2 j oj (opAt j oj xj hj) hlj
          refine ⟨(Oper.apart_spec ((tmpsOk_spec htm ho (opAt j oj xj hj) hji').resolve_left nb)).2.2, fun id hid => ?_⟩
          exact (clash_spec ((noConf_spec hnc (xAt i o' x hz) (xAt j oj xj hj) hji').resolve_left nb)).2 id hid
      -- the step
      let sL : AS := ⟨(stL zs (fun i => listed.getD i false) 0 s0).tm, (stL zs (fun i => listed.getD i false) 0 s0).mem, (stL zs (fun q => decide (q < i)) 0 s0).nx⟩
      obtain ⟨x', hc', hstp, hnxx⟩ := stepC_foot (s' := sL) (hst i o' x hz) rfl (fun t ht => (stL_tm (fun j oj xj hj hne e => (differ j oj xj hj hne).1 t e ht) rfl).symm)
        (fun id hid => (stL_mem (fun j oj xj hj hne => rm_none fun h => (differ j oj xj hj hne).2 id h hid) rfl).symm)
      have hGL : GoodE E n w0 okb sL a := hG.same ⟨fun _ => rfl, fun _ => rfl⟩
      have hrange : nxOf sL x' = (stL zs (fun q => decide (q < i + 1)) 0 s0).nx := by
        rw [hsucc i o' x hz, stp_nx, hnxx]
        cases x <;> rfl
      refine stepC_sound hR ho hGL hc' (fun id h1 h2 h3 => ?_) (hd o' (Array.mem_toList_iff.2 (Array.mem_of_getElem? ho))) fun E' a' hG' hal' => ?_
      · rw [hrange] at h2
        simp only [sL] at h1
        rcases hal id h3 with h | ⟨j, hj1, hj2, hj3, hj4⟩
        · have := hnx0 i (by omega); omega
        · rcases Nat.lt_trichotomy j i with h | h | h
          · have := hnx i (j + 1) (by omega) (by omega); omega
          · subst h; rw [hun'] at hj1; cases hj1
          · have := hnx j (i + 1) (by omega) (by omega); omega
      · have hset : ∀ j, (listed.setIfInBounds i true).getD j false = if j = i then true else listed.getD j false := by
          intro j
          by_cases h : j = i
          · subst h; simp [Array.getD, hli]
          · rw [if_neg h, getD_set_ne false (Ne.symm h)]
        refine ih (listed.setIfInBounds i true) a' E' (by simpa using hsz) ?_ ?_ (hG'.same ?_) ?_
        · have : listed.toList[i]? = some false := by
            rw [Array.getElem?_toList, Array.getElem?_eq_getElem hli]
            simpa [Array.getD, hli] using hun'
          have := count_set this
          rw [Array.toList_setIfInBounds]
          omega
        · intro j oj hj hlj e he hb
          simp only [hset] at hlj ⊢
          split
          · rfl
          · split at hlj
            · rename_i h; subst h
              rw [ho] at hj
              obtain rfl := Option.some.inj hj
              exact hedges e he hb
            · exact hcl j oj hj hlj e he hb
        · rw [hstp]
          refine (stp_same (s := sL) (s' := stL zs (fun i => listed.getD i false) 0 s0) ⟨fun _ => rfl, fun _ => rfl⟩).trans (Same.symm ?_)
          refine stL_insert (i := i) hz (by simpa using hun') (by simp only [Nat.zero_add]; rw [hset, if_pos rfl]) (fun j hj => by simp only [Nat.zero_add] at hj; rw [hset, if_neg hj]) fun j o2 x2 hij hz2 hl2 => ?_
          simp only [Nat.zero_add] at hl2
          have nb := bef2 j o2 (opAt j o2 x2 hz2) hl2
          refine ⟨(Oper.apart_spec ((tmpsOk_spec htm ho (opAt j o2 x2 hz2) hij).resolve_left nb)).2.1, fun id v hg => rm_none ?_⟩
          exact ((clash_spec ((noConf_spec hnc (xAt i o' x hz) (xAt j o2 x2 hz2) hij).resolve_left nb)).1 id (rm_some hg)).2
        · intro id hid
          rcases (hal' id).1 hid with h | ⟨h1, h2⟩
          · rcases hal id h with h | ⟨j, hj1, hj2⟩
            · exact .inl h
            · refine .inr ⟨j, ?_, hj2⟩
              rw [hset]
              split
              · rfl
              · exact hj1
          · rw [hrange] at h2
            exact .inr ⟨i, by rw [hset, if_pos rfl], by omega, h1, h2⟩
end Go.Ab
end

section
namespace Go.Ab
open Go.RowKit (Below)

theorem frm_drew {E : Env} {n : Nat} {w0 : World} {okb : Nat → Prop} {s : AS} {a : Act} (h : GoodE E n w0 okb s a) (w' : World) (hw : w' = { E.w with drawn := E.w.drawn + 1 }) : GoodE { E with w := w' } n w0 okb s a := by
  subst hw
  obtain ⟨hF, hD, hn, hT, hM⟩ := h
  have hle : E.Le { E with w := { E.w with drawn := E.w.drawn + 1 } } := ⟨fun _ h => h, fun _ _ => rfl, fun _ h => ⟨h, rfl⟩, fun _ c _ f h => ⟨c, f, h, rfl⟩⟩
  refine ⟨⟨⟨hF.below.os, hF.below.tape, hF.below.output, hF.below.size, hF.below.block⟩, hF.okb, hF.lt⟩, hD, hn, fun t v ht => ?_, hM.mono hle fun i arr hg hm b o z hl => ⟨rfl, (mut_fact hM hg hm hl).1⟩⟩
  obtain ⟨x, h1, h2⟩ := hT t v ht
  exact ⟨x, h1, h2.mono hle⟩

structure ExOk (n : Nat) (w0 : World) (okb : Nat → Prop) (Q : Ex → AS → Prop) (Qm : Exit → Act → World → Prop) : Prop where
  normal : ∀ s a w, Q .normal s → Good n w0 okb s a w → Qm .normal a w
  exit : ∀ i s a w, Q (.exit i) s → Good n w0 okb s a w → Qm (.exit i) a w
  ret : ∀ s a w, Q .ret s → Good n w0 okb s a w → Qm .ret a w

theorem dsts_region {n id : Nat} {ops : Array Oper} {dr : Bool} (h : dstsOk n (.region id ops dr) = true) : ∀ o, o ∈ ops.toList → ∀ d, o.dst = some d → d < n := by
  intro o ho d hd
  unfold dstsOk at h
  have := (Array.all_eq_true'.1 h) o (by simpa using ho)
  simpa [hd] using this

theorem awp_sound {P : Program} {R : CallRel} (hR : RSound P R) (hm : P.follows .mixedOrders = true) {n : Nat} {w0 : World} {okb : Nat → Prop} : ∀ (c : Code) (Q : Ex → AS → Prop) (Qm : Exit → Act → World → Prop) (s : AS) (a : Act) (w : World),
    dstsOk n c = true → ExOk n w0 okb Q Qm → awp P R c Q s → Good n w0 okb s a w → c.wp P Qm a w := by
  intro c
  induction c with
  | skip => exact fun Q Qm s a w _ hQ h hg => wp_skip (hQ.normal s a w h hg)
  | exit i => exact fun Q Qm s a w _ hQ h hg => wp_exit (hQ.exit i s a w h hg)
  | ret => exact fun Q Qm s a w _ hQ h hg => wp_ret (hQ.ret s a w h hg)
  | region id ops dr =>
    intro Q Qm s a w hd hQ h hg
    have hdd := dsts_region hd
    cases dr with
    | false =>
      obtain ⟨xs, s', ht, hk⟩ := awops_trace (show awops P R ops ops.toList s [] _ from h)
      refine wp_region ?_
      have := text_sound (k := 0) (Q := Qm) hR (fun j o h => by simpa using h) hdd ht hg (fun a' w' hg' => hQ.normal s' a' w' hk hg')
      rw [List.range_eq_range']
      simpa using this
    | true =>
      obtain ⟨xs, s', ht, hk⟩ := awops_trace (show awops P R ops ops.toList s [] _ from h)
      obtain ⟨⟨k1, k2, k3⟩, hk⟩ := hk
      obtain ⟨h1, h2, h3, h4⟩ := trace_at (k := 0) ht
      refine wp_region_any hm ?_
      obtain ⟨E, rfl, hal, hG⟩ := hg
      have hz : ∀ j, (Array.replicate ops.size false).getD j false = false := by
        intro j
        simp only [Array.getD_eq_getD_getElem?, Array.getElem?_replicate]
        split <;> rfl
      refine draw_sound (zs := ops.toList.zip xs) (s0 := s) (s' := s') hR h1 (fun i o x hi => ?_) ?_ k1 k2 (by rw [h2]; exact k3) hdd (fun a' w' hg' => hQ.normal s' a' w' hk hg') ops.size (Array.replicate ops.size false) a { E with w := { E.w with drawn := E.w.drawn + 1 } } (by simp) (by simp)
        (fun j o _ hL => by simp only [hz] at hL; cases hL) ?_ (fun id hid => .inl (hal id hid))
      · have := h3 i o x hi
        rwa [stL_congr (L := fun q => decide (q < 0 + i)) (L' := fun q => decide (q < i)) (fun j _ => by simp)] at this
      · rw [← h4]
        exact stL_congr fun j _ => by simp
      · rw [stL_none fun j _ => hz j]
        exact frm_drew hG _ rfl
  | seq x y ihx ihy =>
    intro Q Qm s a w hd hQ h hg
    have hd : dstsOk n x = true ∧ dstsOk n y = true := by simpa [dstsOk] using hd
    exact wp_seq (ihx (Ex.then (awp P R y Q) Q) _ s a w hd.1 ⟨fun s a w h hg => ihy Q Qm s a w hd.2 hQ h hg, fun i s a w h hg => hQ.exit i s a w h hg, fun s a w h hg => hQ.ret s a w h hg⟩ h hg)
  | cond c x y ihx ihy =>
    intro Q Qm s a w hd hQ h hg
    have hd : dstsOk n x = true ∧ dstsOk n y = true := by simpa [dstsOk] using hd
    simp only [awp, optK] at h
    split at h
    · rename_i t ht
      have hc : a.eval c = .bool t := by
        obtain ⟨E, _, _, _, _, _, hT, _⟩ := hg
        unfold condVal at ht
        split at ht
        · rename_i t' hc
          obtain rfl := Option.some.inj ht
          exact (opr_sound hT hc).sc_inv
        · exact absurd ht (by simp)
      unfold Br at h
      split at h
      · rename_i e; subst e; exact wp_cond_true hc (ihx Q Qm s a w hd.1 hQ h hg)
      · rename_i e
        obtain rfl : t = false := by simpa using e
        exact wp_cond_false hc (ihy Q Qm s a w hd.2 hQ h hg)
    · exact h.elim
  | block id x ihx =>
    intro Q Qm s a w hd hQ h hg
    refine wp_block (ihx (Ex.inBlock id Q) _ s a w (by simpa [dstsOk] using hd) ⟨fun s a w h hg => hQ.normal s a w h hg, fun i s a w h hg => ?_, fun s a w h hg => hQ.ret s a w h hg⟩ h hg)
    simp only [Ex.inBlock, Br, beq_iff_eq] at h
    simp only [Exit.inBlock]
    split
    · rename_i e; rw [if_pos e] at h; exact hQ.normal s a w h hg
    · rename_i e; rw [if_neg e] at h; exact hQ.exit i s a w h hg
  | loop x ihx =>
    intro Q Qm s a w hd hQ h hg b k cs
    have hd : dstsOk n x = true := by simpa [dstsOk] using hd
    obtain ⟨e, a', w', q, r⟩ := (show ∀ I : AS → Prop, (∀ s s', Weak s s' → awp P R x (Ex.then I Q) s' → I s) → I s from h)
      (fun s => ∀ a w, Good n w0 okb s a w → ∀ (b : Frame) (k : List Item) (cs : List Frame), ∃ e a' w', Qm e a' w' ∧ Arrives P (lone (b.at a (.code x :: .inLoop x :: k)) cs w) b k cs e a' w')
      (fun s s' hW hb a w hg b k cs => by
        have := ihx (Ex.then (fun s => ∀ a w, Good n w0 okb s a w → ∀ (b : Frame) (k : List Item) (cs : List Frame), ∃ e a' w', Qm e a' w' ∧ Arrives P (lone (b.at a (.code x :: .inLoop x :: k)) cs w) b k cs e a' w') Q) (fun e a w => match e with
          | .normal => ∀ (b : Frame) (k : List Item) (cs : List Frame), ∃ e a' w', Qm e a' w' ∧ Arrives P (lone (b.at a (.code x :: .inLoop x :: k)) cs w) b k cs e a' w'
          | e => Qm e a w) s' a w hd ⟨fun s a w h hg => h a w hg, fun i s a w h hg => hQ.exit i s a w h hg, fun s a w h hg => hQ.ret s a w h hg⟩ hb (hW n w0 okb a w hg)
        obtain ⟨e, a₁, w₁, hq, harr⟩ := this b (.inLoop x :: k) cs
        cases e with
        | normal =>
          obtain ⟨e₂, a₂, w₂, hq₂, harr₂⟩ := hq b k cs
          exact ⟨e₂, a₂, w₂, hq₂, .of_steps (Steps.trans harr (.one step_inLoop)) harr₂⟩
        | exit id => exact ⟨_, a₁, w₁, hq, .pass (x := .inLoop x) rfl (fun _ _ => .inl (by simp)) harr⟩
        | goto l => exact ⟨_, a₁, w₁, hq, .pass (x := .inLoop x) rfl (fun _ _ => .inl (by simp)) harr⟩
        | ret => exact ⟨_, a₁, w₁, hq, .pass (x := .inLoop x) rfl (fun _ _ => .inl (by simp)) harr⟩
        | panic ch => exact ⟨_, a₁, w₁, hq, .pass (x := .inLoop x) rfl (fun _ _ => .inl (by simp)) harr⟩
        | outgrown => exact ⟨_, a₁, w₁, hq, .pass (x := .inLoop x) rfl (fun _ _ => .inl (by simp)) harr⟩) a w hg b k cs
    exact ⟨e, a', w', q, .of_steps (.one step_loop) r⟩
  | _ => exact fun Q Qm s a w _ _ h _ => (show False from h).elim
end Go.Ab
end

section
namespace Go.Ab
open Go.RowKit (Below)

theorem RR.okMono {w : World} {ok ok' : Nat → Prop} {h : Nat} {a : AV} {v : Value} {bs : List Nat} (hok : ∀ b, ok b → ok' b) (hr : RR w ok h a v bs) : RR w ok' h a v bs := by
  cases hr with
  | pure hp => exact .pure (hp.mono hok (fun _ _ => rfl))
  | frNil sz => exact .frNil sz
  | fr sz xs b o cap c t hb hh hl hs hc => exact .fr sz xs b o cap c t hb hh hl hs (hc.mono hok (fun _ _ => rfl))
theorem RRs.okMono {w : World} {ok ok' : Nat → Prop} {h : Nat} {as : List AV} {vs : List Value} {bs : List Nat} (hok : ∀ b, ok b → ok' b) (hr : RRs w ok h as vs bs) : RRs w ok' h as vs bs := by
  induction hr with
  | nil => exact .nil
  | cons ha _ ih => exact .cons (ha.okMono hok) ih
  | agg h1 _ _ ih1 ih2 => exact .agg h1 ih1 ih2

theorem row_part {E : Env} {base : Nat} {mem : List (Nat × Arr)} (hM : MemRel E base mem) {id off len sz : Nat} {xs : List (List AV)} (hg : get mem id = some (.row sz xs)) {b o z : Nat} (hl : E.loc id = some (b, o, z))
    {c : Array Value} {t : TypeId} {f : Nat × Nat} (hb : E.w.heap[b]? = some (.cells c t f)) : Cells E.w E.ok c (o + off * sz) sz ((xs.drop off).take len) := by
  obtain ⟨h1, h2⟩ := row_cells (off := off) (len := len) hM (.inl hg) hl
  refine fun i cs hi => ⟨h1 i cs hi, fun j a hj => ?_⟩
  obtain ⟨y, q1, q2, q3⟩ := h2 i cs j a hi hj
  rw [cell_at hb] at q1
  exact ⟨y, q1, q2, q3⟩

structure OutOk (E : Env) (base : Nat) (mem : List (Nat × Arr)) (x y : List Nat) (ok' : Nat → Prop) : Prop where
  ok : ∀ b, E.ok b → ok' b
  y : ∀ id, id ∈ y → ∀ b o z, E.loc id = some (b, o, z) → ok' b

theorem ret_one {E : Env} {base : Nat} {mem : List (Nat × Arr)} (hM : MemRel E base mem) {a a' : AV} {x y : List Nat} {v : Value} {ok' : Nat → Prop} (h : RetTo mem a a' x y) (hv : Rep E a v) (ho : ∀ b, E.ok b → ok' b)
    (hy : ∀ id, id ∈ y → ∀ b o z, E.loc id = some (b, o, z) → ok' b) : ∃ bs, RR E.w ok' base a' v bs ∧ bs.Nodup ∧ (∀ b, b ∈ bs → ∃ id o z, id ∈ x ∧ E.loc id = some (b, o, z)) ∧ ∀ id, id ∈ x ++ y → ∃ sz xs, get mem id = some (.row sz xs) := by
  cases h with
  | same h => exact ⟨[], .pure ((rep_pure h hv).mono ho (fun _ _ => rfl)), by simp, by simp, by simp⟩
  | nil sz => obtain rfl := hv.nil_inv; exact ⟨[], .pure (.slNil sz), by simp, by simp, by simp⟩
  | nilF sz => obtain rfl := hv.nil_inv; exact ⟨[], .frNil sz, by simp, by simp, by simp⟩
  | @fr id off len sz xs hg hl =>
    have hll : ((xs.drop off).take len).length = len := by simp; omega
    rcases hv.own_inv.2 with ⟨hloc, rfl, rfl, rfl⟩ | ⟨b, o, z, cap, hloc, rfl, hc, c, t, f, hb, hs⟩
    · refine ⟨[], ?_, by simp, by simp, fun i hi => ⟨sz, xs, ?_⟩⟩
      · simpa using RR.frNil (w := E.w) (ok := ok') (h := base) sz
      · obtain rfl : i = id := by simpa using hi
        exact hg
    · have hzz := row_loc hM (.inl hg) hloc
      subst hzz
      have hr := (hM.arr id _ hg).2
      simp only [ArrRel, hloc] at hr
      obtain ⟨c', t', hb', hbase, _, _⟩ := hr
      have e := hb.symm.trans hb'
      simp only [Option.some.injEq, Obj.cells.injEq] at e
      obtain ⟨rfl, rfl, rfl⟩ := e
      have := RR.fr (w := E.w) (ok := ok') (h := base) z ((xs.drop off).take len) b (o + off * z) cap c t hb hbase (by omega) (by rw [Nat.add_assoc, ← Nat.add_mul]; exact hs) ((row_part hM hg hloc hb).mono ho (fun _ _ => rfl))
      rw [hll] at this
      refine ⟨[b], this, by simp, fun b' hb' => ⟨id, o, z, by simp, ?_⟩, fun i hi => ⟨z, xs, ?_⟩⟩
      · obtain rfl : b' = b := by simpa using hb'
        exact hloc
      · obtain rfl : i = id := by simpa using hi
        exact hg
  | @sl id off len sz xs hg hl =>
    have hll : ((xs.drop off).take len).length = len := by simp; omega
    refine ⟨[], .pure ?_, by simp, by simp, fun i hi => ⟨sz, xs, ?_⟩⟩
    · rcases hv.own_inv.2 with ⟨hloc, rfl, rfl, rfl⟩ | ⟨b, o, z, cap, hloc, rfl, hc, c, t, f, hb, hs⟩
      · simpa using RepP.slNil (w := E.w) (ok := ok') sz
      · have hzz := row_loc hM (.inl hg) hloc
        subst hzz
        obtain ⟨hz, hcell⟩ := row_cells (off := off) (len := len) hM (.inl hg) hloc
        have := RepP.sl (w := E.w) (ok := ok') z ((xs.drop off).take len) b (o + off * z) cap (fun i j => (E.w.cell? ⟨b, o + off * z + i * z + j, none⟩).getD undef) (hy id (by simp) b o z hloc) (by omega) hz
          (fun i cs j a hi hj => by obtain ⟨y, h1, h2, h3⟩ := hcell i cs j a hi hj; simp [h1])
          (fun i cs j a hi hj => by obtain ⟨y, h1, h2, h3⟩ := hcell i cs j a hi hj; simpa [h1] using h2)
          (fun i cs j a hi hj => by obtain ⟨y, h1, h2, h3⟩ := hcell i cs j a hi hj; simpa [h1] using h3.mono ho (fun _ _ => rfl))
        rwa [hll] at this
    · obtain rfl : i = id := by simpa using hi
      exact hg
  | @frz id off len sz xs hg hl => exact ⟨[], .pure ((frz_rep hM hg hv hl).mono ho (fun _ _ => rfl)), by simp, by simp, by simp⟩

theorem rets_sound {E : Env} {base : Nat} {mem : List (Nat × Arr)} (hM : MemRel E base mem) {as as' : List AV} {x y : List Nat} {ok' : Nat → Prop} (h : RetsTo mem as as' x y) : ∀ {vs : List Value}, Reps E as vs → (∀ b, E.ok b → ok' b) →
    (∀ id, id ∈ y → ∀ b o z, E.loc id = some (b, o, z) → ok' b) → x.Nodup → ∃ bs, RRs E.w ok' base as' vs bs ∧ bs.Nodup ∧ (∀ b, b ∈ bs → ∃ id o z, id ∈ x ∧ E.loc id = some (b, o, z)) ∧ ∀ id, id ∈ x ++ y → ∃ sz xs, get mem id = some (.row sz xs) := by
  have nd : ∀ (x x' y y' bs bs' : List Nat), (x ++ x').Nodup → bs.Nodup → bs'.Nodup → (∀ b, b ∈ bs → ∃ id o z, id ∈ x ∧ E.loc id = some (b, o, z)) → (∀ b, b ∈ bs' → ∃ id o z, id ∈ x' ∧ E.loc id = some (b, o, z)) →
      (∀ id, id ∈ x ++ y → ∃ sz xs, get mem id = some (.row sz xs)) → (∀ id, id ∈ x' ++ y' → ∃ sz xs, get mem id = some (.row sz xs)) → (bs ++ bs').Nodup ∧ (∀ b, b ∈ bs ++ bs' → ∃ id o z, id ∈ x ++ x' ∧ E.loc id = some (b, o, z)) ∧
      ∀ id, id ∈ (x ++ x') ++ (y ++ y') → ∃ sz xs, get mem id = some (.row sz xs) := by
    intro x x' y y' bs bs' h0 h1 h2 h3 h4 h5 h6
    rw [List.nodup_append] at h0
    refine ⟨List.nodup_append.2 ⟨h1, h2, fun b hb b' hb' e => ?_⟩, fun b hb => ?_, fun id hi => ?_⟩
    · subst e
      obtain ⟨id, o, z, q1, q2⟩ := h3 b hb
      obtain ⟨id', o', z', q3, q4⟩ := h4 b hb'
      obtain ⟨_, _, g1⟩ := h5 id (by simp [q1])
      obtain ⟨_, _, g2⟩ := h6 id' (by simp [q3])
      have := hM.far id id' _ _ b o z o' z' g1 g2 rfl rfl q2 q4
      subst this
      exact h0.2.2 id q1 id q3 rfl
    · rcases List.mem_append.1 hb with hb | hb
      · obtain ⟨id, o, z, q1, q2⟩ := h3 b hb; exact ⟨id, o, z, by simp [q1], q2⟩
      · obtain ⟨id, o, z, q1, q2⟩ := h4 b hb; exact ⟨id, o, z, by simp [q1], q2⟩
    · simp only [List.mem_append] at hi h5 h6
      rcases hi with (hi | hi) | (hi | hi)
      · exact h5 id (.inl hi)
      · exact h6 id (.inl hi)
      · exact h5 id (.inr hi)
      · exact h6 id (.inr hi)
  have tail : ∀ {a : AV} {r : List AV} {vs : List Value}, Reps E (a :: r) vs → ∃ v vs', vs = v :: vs' ∧ Rep E a v ∧ Reps E r vs' := by
    intro a r vs hR
    match vs, hR with
    | [], hR => have := hR.1; simp at this
    | v :: vs', hR => exact ⟨v, vs', rfl, hR.2 0 a v rfl rfl, by simpa using hR.1, fun j c u hj hu => hR.2 (j + 1) c u (by simpa using hj) (by simpa using hu)⟩
  induction h with
  | nil =>
    intro vs hR _ _ _
    obtain rfl : vs = [] := by simpa using hR.1
    exact ⟨[], .nil, by simp, by simp, by simp⟩
  | cons h hr ih =>
    intro vs hR ho hy hx
    obtain ⟨v, vs', rfl, h1, h2⟩ := tail hR
    obtain ⟨bs, q1, q2, q3, q4⟩ := ret_one hM h h1 ho (fun id hi => hy id (by simp [hi]))
    obtain ⟨bs', q5, q6, q7, q8⟩ := ih h2 ho (fun id hi => hy id (by simp [hi])) (List.nodup_append.1 hx).2.1
    obtain ⟨n1, n2, n3⟩ := nd _ _ _ _ bs bs' hx q2 q6 q3 q7 q4 q8
    exact ⟨bs ++ bs', .cons q1 q5, n1, n2, n3⟩
  | aggs h hr ih1 ih2 =>
    intro vs hR ho hy hx
    obtain ⟨v, vs', rfl, h1, h2⟩ := tail hR
    obtain ⟨cv, rfl, g1, g2⟩ := h1.agg_inv
    obtain ⟨bs, q1, q2, q3, q4⟩ := ih1 g2 ho (fun id hi => hy id (by simp [hi])) (List.nodup_append.1 hx).1
    obtain ⟨bs', q5, q6, q7, q8⟩ := ih2 h2 ho (fun id hi => hy id (by simp [hi])) (List.nodup_append.1 hx).2.1
    obtain ⟨n1, n2, n3⟩ := nd _ _ _ _ bs bs' hx q2 q6 q3 q7 q4 q8
    exact ⟨bs ++ bs', .agg g1 q1 q5, n1, n2, n3⟩

def readRes (tmps : Array Value) : ResultVar → Sem Value
  | .tmp t => pure (tmps.getD t undef)
  | .cell p t => do loadVar t (← asAddr (tmps.getD p undef))
theorem results_eq (fn : Func) (tmps : Array Value) : results fn tmps = (do
    let vs ← fn.results.mapM (readRes tmps)
    pure (if h : vs.size = 1 then vs[0] else .tuple vs)) := by
  unfold results
  congr 1

theorem resVars_sound {E : Env} {base : Nat} {s : AS} {a : Act} (hM : MemRel E base s.mem) (hT : TmRel E s.tm a) (P : Program) : ∀ {l : List ResultVar} {vs : List AV}, resVars P s l = some vs →
    ∃ xs : List Value, (l.mapM (readRes a.tmps)).run P E.w = .ok xs E.w ∧ Reps E vs xs
  | [], vs, h => by
    obtain rfl := Option.some.inj h
    exact ⟨[], by simp [Sem.run_pure], rfl, by simp⟩
  | x :: r, vs, h => by
    unfold resVars at h
    split at h
    · rename_i v vs' h1 h2
      obtain rfl := Option.some.inj h
      obtain ⟨xs, q1, q2⟩ := resVars_sound hM hT P h2
      have key : ∃ y, (readRes a.tmps x).run P E.w = .ok y E.w ∧ Rep E v y := by
        cases x with
        | tmp t =>
          obtain ⟨y, g1, g2⟩ := hT t v h1
          exact ⟨y, by simp [readRes, Sem.run_pure, Array.getD_eq_getD_getElem?, g1], g2⟩
        | cell p t =>
          simp only [resVar] at h1
          split at h1
          · rename_i pv hp
            obtain ⟨px, g1, g2⟩ := hT p pv hp
            split at h1
            · rename_i z cs rd hz hb
              obtain ⟨b, o, rfl, hc⟩ := behind_sound hM hb g2
              obtain ⟨y, hy, hr⟩ := loadVar_sound hz h1 hc
              exact ⟨y, by simp [readRes, Array.getD_eq_getD_getElem?, g1, asAddr, hy], hr⟩
            · exact absurd h1 (by simp)
          · exact absurd h1 (by simp)
      obtain ⟨y, k1, k2⟩ := key
      refine ⟨y :: xs, ?_, by simp [q2.1], fun j c u hj hu => ?_⟩
      · simp only [List.mapM_cons, Sem.run_bind, Sem.run_pure, Result.andThen_ok, q1, k1]
      · cases j with
        | zero => simp at hj hu; subst hj hu; exact k2
        | succ j => exact q2.2 j c u (by simpa using hj) (by simpa using hu)
    · exact absurd h (by simp)

theorem get_number : ∀ {as : List AV} {k t : Nat} {v : AV}, get (number k as) t = some v → k ≤ t ∧ as[t - k]? = some v
  | [], _, _, _, h => by cases h
  | a :: r, k, t, v, h => by
    simp only [number, get_cons] at h
    split at h
    · rename_i e
      subst e
      exact ⟨Nat.le_refl _, by simpa using h⟩
    · obtain ⟨h1, h2⟩ := get_number h
      refine ⟨by omega, ?_⟩
      rw [show t - k = (t - (k + 1)) + 1 by omega]
      simpa using h2

def valOut (xs : List Value) : Value := match xs with
  | [v] => v
  | _ => .tuple xs.toArray

theorem retC_to {mem : List (Nat × Arr)} {a a' : AV} {used : List Nat} {K : List Nat → Prop} (h : retC mem a a' used K) : ∃ x y, RetTo mem a a' x y ∧ (x ++ y).Nodup ∧ (∀ i, i ∈ x ++ y → i ∉ used) ∧ K (x ++ y ++ used) := by
  unfold retC at h
  split at h
  · split at h
    · obtain ⟨rfl, h1, rfl, h2, h3⟩ := h
      rename_i hg
      exact ⟨_, _, .fr hg h1, by simp, by simpa using h2, h3⟩
    · exact h.elim
  · split at h
    · obtain ⟨rfl, h1, rfl, h2, h3⟩ := h
      rename_i hg
      exact ⟨_, _, .sl hg h1, by simp, by simpa using h2, h3⟩
    · obtain ⟨rfl, h1, rfl, h3⟩ := h
      rename_i hg
      exact ⟨_, _, .frz hg h1, by simp, by simp, h3⟩
    · exact h.elim
  · obtain ⟨rfl, h3⟩ := h; exact ⟨_, _, .nil _, by simp, by simp, h3⟩
  · obtain ⟨rfl, h3⟩ := h; exact ⟨_, _, .nilF _, by simp, by simp, h3⟩
  · obtain ⟨rfl, h1, h3⟩ := h; exact ⟨_, _, .same h1, by simp, by simp, h3⟩

structure Out (mem : List (Nat × Arr)) (as as' : List AV) (used : List Nat) (K : List Nat → Prop) (x y : List Nat) : Prop where
  to : RetsTo mem as as' x y
  nd : (x ++ y).Nodup
  un : ∀ i, i ∈ x ++ y → i ∉ used
  k : ∃ u, (∀ i, i ∈ u ↔ i ∈ x ++ y ++ used) ∧ K u

theorem out_nd {x y x' y' used u : List Nat} (hu : ∀ i, i ∈ u ↔ i ∈ x ++ y ++ used) (n1 : (x ++ y).Nodup) (n2 : (x' ++ y').Nodup) (h1 : ∀ i, i ∈ x ++ y → i ∉ used) (h2 : ∀ i, i ∈ x' ++ y' → i ∉ u) :
    ((x ++ x') ++ (y ++ y')).Nodup ∧ (∀ i, i ∈ (x ++ x') ++ (y ++ y') → i ∉ used) := by
  rw [List.nodup_append] at n1 n2
  have hne : ∀ i, i ∈ x ++ y → ∀ j, j ∈ x' ++ y' → i ≠ j := fun i hi j hj e => h2 j hj ((hu j).2 (by rw [← e]; simp only [List.mem_append] at hi ⊢; exact .inl hi))
  refine ⟨List.nodup_append.2 ⟨List.nodup_append.2 ⟨n1.1, n2.1, fun a ha b hb => hne a (by simp [ha]) b (by simp [hb])⟩, List.nodup_append.2 ⟨n1.2.1, n2.2.1, fun a ha b hb => hne a (by simp [ha]) b (by simp [hb])⟩, fun a ha b hb => ?_⟩, fun i hi hin => ?_⟩
  · rcases List.mem_append.1 ha with ha | ha <;> rcases List.mem_append.1 hb with hb | hb
    · exact n1.2.2 a ha b hb
    · exact hne a (by simp [ha]) b (by simp [hb])
    · exact (hne b (by simp [hb]) a (by simp [ha])).symm
    · exact n2.2.2 a ha b hb
  · have hu' : i ∈ u := (hu i).2 (by simp [hin])
    simp only [List.mem_append] at hi h1 h2
    rcases hi with (hi | hi) | (hi | hi)
    · exact h1 i (.inl hi) hin
    · exact h2 i (.inl hi) hu'
    · exact h1 i (.inr hi) hin
    · exact h2 i (.inr hi) hu'

theorem out_mem {x y x' y' used u u' : List Nat} (hu : ∀ i, i ∈ u ↔ i ∈ x ++ y ++ used) (hu' : ∀ i, i ∈ u' ↔ i ∈ x' ++ y' ++ u) : ∀ i, i ∈ u' ↔ i ∈ (x ++ x') ++ (y ++ y') ++ used := by
  intro i
  rw [hu' i]
  simp only [List.mem_append, hu i]
  constructor
  · rintro ((h | h) | ((h | h) | h)) <;> simp [h]
  · rintro (((h | h) | (h | h)) | h) <;> simp [h]

theorem retCs_to {mem : List (Nat × Arr)} : ∀ {as as' : List AV} {used : List Nat} {K : List Nat → Prop}, retCs mem as as' used K → ∃ x y, Out mem as as' used K x y
  | [], [], used, K, h => ⟨[], [], .nil, by simp, by simp, used, by simp, h⟩
  | a :: r, a' :: r', used, K, h => by
    obtain ⟨x, y, h1, h2, h3, h4⟩ := retC_to (show retC mem a a' used _ from h)
    obtain ⟨x', y', o⟩ := retCs_to h4
    obtain ⟨u, hu, hk⟩ := o.k
    obtain ⟨n1, n2⟩ := out_nd (fun i => Iff.rfl) h2 o.nd h3 o.un
    exact ⟨x ++ x', y ++ y', .cons h1 o.to, n1, n2, u, out_mem (fun i => Iff.rfl) hu, hk⟩
  | [], _ :: _, _, _, h => h.elim
  | _ :: _, [], _, _, h => h.elim

theorem retTs_to {mem : List (Nat × Arr)} : ∀ {as as' : List AV} {used : List Nat} {K : List Nat → Prop}, retTs mem as as' used K → ∃ x y, Out mem as as' used K x y
  | [], [], used, K, h => ⟨[], [], .nil, by simp, by simp, used, by simp [retTs] at h ⊢, by simpa [retTs] using h⟩
  | a :: r, a' :: r', used, K, h => by
    unfold retTs at h
    split at h
    · rename_i e _; cases e
    · rename_i cs r1 cs' r1' u0 K0 e1 e2 
      obtain ⟨rfl, rfl⟩ := List.cons.inj e1
      obtain ⟨rfl, rfl⟩ := List.cons.inj e2
      obtain ⟨x, y, o1⟩ := retCs_to h
      obtain ⟨u1, hu1, hk1⟩ := o1.k
      obtain ⟨x', y', o⟩ := retTs_to hk1
      obtain ⟨u, hu, hk⟩ := o.k
      obtain ⟨n1, n2⟩ := out_nd hu1 o1.nd o.nd o1.un o.un
      exact ⟨x ++ x', y ++ y', .aggs o1.to o.to, n1, n2, u, out_mem hu1 hu, hk⟩
    · rename_i a0 r1 a0' r1' u0 K0 _ e1 e2
      obtain ⟨rfl, rfl⟩ := List.cons.inj e1
      obtain ⟨rfl, rfl⟩ := List.cons.inj e2
      obtain ⟨x, y, h1, h2, h3, h4⟩ := retC_to h
      obtain ⟨x', y', o⟩ := retTs_to h4
      obtain ⟨u, hu, hk⟩ := o.k
      obtain ⟨n1, n2⟩ := out_nd (fun i => Iff.rfl) h2 o.nd h3 o.un
      exact ⟨x ++ x', y ++ y', .cons h1 o.to, n1, n2, u, out_mem (fun i => Iff.rfl) hu, hk⟩
    · exact h.elim
  | [], _ :: _, _, _, h => by simp [retTs] at h
  | _ :: _, [], _, _, h => by simp [retTs] at h

theorem rets_len {mem : List (Nat × Arr)} {as as' : List AV} {x y : List Nat} (h : RetsTo mem as as' x y) : as'.length = as.length := by
  induction h with
  | nil => rfl
  | cons _ _ ih => simp [ih]
  | aggs _ _ _ ih => simp [ih]

theorem retPost_out {P : Program} {rv : Array ResultVar} {r : AV} {e : Ex} {s : AS} (he : ∀ i, e ≠ .exit i) (h : retPost P rv r e s) :
    ∃ vs rs x y, resVars P s rv.toList = some vs ∧ RetsTo s.mem vs rs x y ∧ x.Nodup ∧ (∀ i, i ∈ x → i ∉ y) ∧ r = (match rs with | [v] => v | _ => .tup rs) := by
  have key : (optK (resVars P s rv.toList) fun vs => retTs s.mem vs (unpack vs r) [] fun _ => packs vs r = true) → ∃ vs rs x y, resVars P s rv.toList = some vs ∧ RetsTo s.mem vs rs x y ∧ x.Nodup ∧ (∀ i, i ∈ x → i ∉ y) ∧ r = (match rs with | [v] => v | _ => .tup rs) := by
    intro h
    unfold optK at h
    split at h
    · rename_i vs hv
      obtain ⟨x, y, o⟩ := retTs_to h
      obtain ⟨_, _, hk⟩ := o.k
      have nd := List.nodup_append.1 o.nd
      refine ⟨vs, unpack vs r, x, y, hv, o.to, nd.1, fun i hi hj => nd.2.2 i hi i hj rfl, ?_⟩
      have hl := rets_len o.to
      clear h o nd hv
      match vs, r, hk, hl with
      | [v], r, _, _ => rfl
      | [], r, hk, hl =>
        cases r with
        | tup rs =>
          simp only [unpack] at hl ⊢
          obtain rfl : rs = [] := by simpa using hl
          rfl
        | _ => cases hk
      | v :: w :: l, r, hk, hl =>
        cases r with
        | tup rs =>
          simp only [unpack] at hl ⊢
          match rs, hl with
          | _ :: _ :: _, _ => rfl
        | _ => cases hk
    · exact h.elim
  cases e with
  | exit i => exact absurd rfl (he i)
  | normal => exact key h
  | ret => exact key h

/-- What is known of functions from elsewhere carries over to all that is known. -/
theorem ret_sound {P : Program} {X : CallRel} (hX : RSound P X) (hm : P.follows .mixedOrders = true) : RSound P (Ret P X) := by
  intro f as r h
  refine h (Means P) hX ?_
  rintro f as r ⟨fn, c, hf, hb, hname, hn, hd, hfr, hw⟩
  refine ⟨⟨fn, c, hf, hb, hname⟩, fun w ok vs hok hvs => ?_, fun sz xs e => by subst e; cases hfr⟩
  refine calls_of_wp hf hb ?_
  refine awp_sound (n := fn.ntmps) (w0 := w) (okb := ok) (R := Means P) (fun f as r h => h) hm c (retPost P fn.results r) _ (init as) _ w hd ?_ hw ?_
  · have fin : ∀ s a w', (∃ vs rs x y, resVars P s fn.results.toList = some vs ∧ RetsTo s.mem vs rs x y ∧ x.Nodup ∧ (∀ i, i ∈ x → i ∉ y) ∧ r = (match rs with | [v] => v | _ => .tup rs)) → Good fn.ntmps w ok s a w' →
        a.defers = [] ∧ ∃ v, (results fn a.tmps).run P w' = .ok v w' ∧ ∃ v', Ending.returned v = .returned v' ∧ Below w.heap.size w w' ∧ ResOk w w' ok r v' := by
      rintro s a w' ⟨avs, rs, x, y, h1, h2, h3, h4, h5⟩ ⟨E, rfl, _, hF, hD, hsz, hT, hM⟩
      obtain ⟨xs, q1, q2⟩ := resVars_sound hM hT P h1
      have hrow : ∀ (ok' : Nat → Prop), (∀ b, E.ok b → ok' b) → (∀ id, id ∈ y → ∀ b o z, E.loc id = some (b, o, z) → ok' b) → _ := fun ok' ho hy => rets_sound hM h2 (ok' := ok') q2 ho hy h3
      obtain ⟨_, _, _, _, hrows⟩ := hrow (fun _ => True) (fun _ _ => trivial) (fun _ _ _ _ _ _ => trivial)
      obtain ⟨bs, p1, p2, p3, p4⟩ := hrow (fun b => (ok b ∨ (w.heap.size ≤ b ∧ b < E.w.heap.size)) ∧ ∀ id o z, id ∈ x → E.loc id ≠ some (b, o, z))
        (fun b hb => by
          refine ⟨?_, fun id o z hi hl => ?_⟩
          · by_cases c : b < w.heap.size
            · exact .inl (hF.okb b c hb)
            · exact .inr ⟨by omega, hF.lt b hb⟩
          · obtain ⟨_, _, hg⟩ := hrows id (by simp [hi])
            exact (mut_fact hM hg rfl hl).1 hb)
        (fun id hi b o z hl => by
          obtain ⟨_, _, hg⟩ := hrows id (by simp [hi])
          obtain ⟨_, g2, g3⟩ := mut_fact hM hg rfl hl
          refine ⟨.inr ⟨g3, g2⟩, fun id' o' z' hi' hl' => ?_⟩
          obtain ⟨_, _, hg'⟩ := hrows id' (by simp [hi'])
          have := hM.far id id' _ _ b o z o' z' hg hg' rfl rfl hl hl'
          subst this
          exact h4 id hi' hi)
      refine ⟨hD, valOut xs, ?_, _, rfl, hF.below, bs, rs, xs, p2, p1.okMono fun b hb => ⟨hb.1, fun hbs => ?_⟩, h5, rfl⟩
      · have hrun := q1
        rw [results_eq, Sem.run_bind, Array.mapM_eq_mapM_toList, map_eq_pure_bind, Sem.run_bind, hrun]
        simp only [Result.andThen_ok, Sem.run_pure]
        match xs with
        | [] => rfl
        | [v] => rfl
        | _ :: _ :: _ => rfl
      · obtain ⟨id, o, z, g1, g2⟩ := p3 b hbs
        exact hb.2 id o z g1 g2
    exact ⟨fun s a w' h hg => fin s a w' (retPost_out (by simp) h) hg, fun i s a w' h _ => h.elim, fun s a w' h hg => fin s a w' (retPost_out (by simp) h) hg⟩
  · refine ⟨⟨w, ok, fun _ => none, fun _ => False⟩, rfl, fun id h => h.elim, ⟨.refl _ _, fun b _ h => h, hok⟩, rfl, ?_, fun t v ht => ?_, ⟨fun id arr hg => (by cases hg), fun id id' arr arr' b o z o' z' hg => (by cases hg)⟩⟩
    · have := hvs.1
      simp; omega
    · obtain ⟨_, hj⟩ := get_number ht
      simp only [Nat.sub_zero] at hj
      have hlt : t < vs.length := by have := (List.getElem?_eq_some_iff.1 hj).1; have := hvs.1; omega
      refine ⟨vs[t], ?_, .pure (hvs.2 t v _ hj (List.getElem?_eq_getElem hlt))⟩
      rw [Array.getElem?_append_left (by simpa using hlt)]
      simp [hlt]
end Go.Ab
end
