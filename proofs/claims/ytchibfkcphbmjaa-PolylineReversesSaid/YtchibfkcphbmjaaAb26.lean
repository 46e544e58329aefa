/- The abstract interpreter: steps of a region. -/
import Derived.Test.YtchibfkcphbmjaaAb23
set_option linter.unusedVariables false
set_option linter.unusedSimpArgs false
set_option linter.unusedSectionVars false

section
namespace Go.Ab
open Go.RowKit (Below)

/-! What a call looks at. -/
theorem ArgTo.mono {mem mem' : List (Nat × Arr)} (hm : ∀ id arr, get mem id = some arr → get mem' id = some arr) {a a' : AV} (h : ArgTo mem a a') : ArgTo mem' a a' := by
  induction h with
  | same h => exact .same h
  | nil sz => exact .nil sz
  | row hg hl => exact .row (hm _ _ hg) hl
  | frz hg hl => exact .frz (hm _ _ hg) hl
  | empty hg => exact .empty (hm _ _ hg)
  | box hg hl _ ih => exact .box (hm _ _ hg) hl ih
  | fn hx hy _ _ ih1 ih2 => exact .fn hx hy ih1 ih2
  | agg hx _ ih => exact .agg hx ih
theorem ArgTo.mono' {mem mem' : List (Nat × Arr)} {a a' : AV} (h : ArgTo mem a a') (ho : owns a = false) : ArgTo mem' a a' := by
  cases h with
  | same h => exact .same h
  | nil sz => exact .nil sz
  | row _ _ => cases ho
  | frz _ _ => cases ho
  | empty _ => cases ho
  | box _ _ _ => cases ho
  | fn _ _ _ _ => cases ho
  | agg _ _ => cases ho
theorem ArgsTo.mono {mem mem' : List (Nat × Arr)} : ∀ {as as' : List AV}, (as.any owns = true → ∀ id arr, get mem id = some arr → get mem' id = some arr) → ArgsTo mem as as' → ArgsTo mem' as as'
  | [], [], _, _ => trivial
  | a :: r, a' :: r', hm, h => by
    refine ⟨?_, ArgsTo.mono (fun hr => hm (by simp [hr])) h.2⟩
    cases ho : owns a with
    | true => exact h.1.mono (hm (by simp [ho]))
    | false => exact h.1.mono' ho
  | [], _ :: _, _, h => h.elim
  | _ :: _, [], _, h => h.elim
theorem frzOf_mono {mem mem' : List (Nat × Arr)} : ∀ {as : List AV} {z : List (Nat × Arr)}, (as.any owns = true → ∀ id arr, get mem id = some arr → get mem' id = some arr) → frzOf mem as = some z → frzOf mem' as = some z
  | [], _, _, h => h
  | a :: r, z, hm, h => by
    have hr : (r.any owns = true → ∀ id arr, get mem id = some arr → get mem' id = some arr) := fun q => hm (by simp [q])
    cases a with
    | own id off len =>
      have hm' := hm (by simp [owns])
      unfold frzOf at h ⊢
      split at h
      · rename_i sz xs d hg hd
        rw [hm' _ _ hg, frzOf_mono hr hd]; exact h
      · rename_i sz xs d hg hd
        rw [hm' _ _ hg, frzOf_mono hr hd]; exact h
      · exact absurd h (by simp)
    | agg cs =>
      unfold frzOf at h ⊢
      split at h
      · rename_i hc; rw [if_pos hc]; exact frzOf_mono hr h
      · exact absurd h (by simp)
    | ptr _ _ _ => simp only [frzOf, owns, if_true] at h; exact absurd h (by simp)
    | fn _ _ _ => simp only [frzOf, owns, if_true] at h; exact absurd h (by simp)
    | tup _ => simp only [frzOf, owns, if_true] at h; exact absurd h (by simp)
    | jk => simp only [frzOf, owns] at h ⊢; exact frzOf_mono hr (by simpa using h)
    | sc _ => simp only [frzOf, owns] at h ⊢; exact frzOf_mono hr (by simpa using h)
    | nil => simp only [frzOf, owns] at h ⊢; exact frzOf_mono hr (by simpa using h)
    | sl _ _ => simp only [frzOf, owns] at h ⊢; exact frzOf_mono hr (by simpa using h)
    | fr _ _ => simp only [frzOf, owns] at h ⊢; exact frzOf_mono hr (by simpa using h)
    | ref _ => simp only [frzOf, owns] at h ⊢; exact frzOf_mono hr (by simpa using h)

theorem get_mem_keys {α : Type} {m : List (Nat × α)} {i : Nat} {a : α} (h : get m i = some a) : i ∈ m.map (·.1) := by
  induction m with
  | nil => cases h
  | cons p m ih =>
    obtain ⟨u, v⟩ := p
    rw [get_cons] at h
    split at h
    · rename_i e; simp [e]
    · simp [List.mem_cons]; right; simpa using ih h

theorem call_foot {R : CallRel} {s s' : AS} {g : FuncId} {as : List AV} {r : Res} (h : CallYields R s g as r) (hn : s'.nx = s.nx) (hm : ∀ id, id ∈ r.rd → get s'.mem id = get s.mem id) : ∃ rd, CallYields R s' g as { r with rd := rd } := by
  obtain ⟨as', v, h1, h2, h3⟩ := h
  have hrd : r.rd = if as.any owns then s.mem.map (·.1) else [] := by
    rcases h3 with ⟨_, rfl⟩ | ⟨_, _, _, rfl⟩ <;> rfl
  have hm' : as.any owns = true → ∀ id arr, get s.mem id = some arr → get s'.mem id = some arr := by
    intro ho id arr hg
    rw [hm id (by rw [hrd, if_pos ho]; exact get_mem_keys hg), hg]
  refine ⟨if as.any owns then s'.mem.map (·.1) else [], as', v, h1.mono hm', h2, ?_⟩
  rcases h3 with ⟨q, rfl⟩ | ⟨z, hz, q, rfl⟩
  · exact .inl ⟨q, by simp [hn]⟩
  · exact .inr ⟨z, frzOf_mono hm' hz, q, by simp [hn]⟩

theorem callee_foot {s s' : AS} {c : Call} {x : FuncId × List AV} (h : callee s c = some x) (ho : ∀ y, y ∈ c.operands.toList → opr s' y = opr s y) : callee s' c = some x := by
  obtain ⟨cl, args, ts⟩ := c
  cases cl with
  | value f =>
    unfold callee at h ⊢
    simp only at h ⊢
    split at h
    · rename_i g first cap as h1 h2
      rw [ho f (by simp [Call.operands]), h1, oprs_foot (fun y hy => ho y (by simp [Call.operands]; right; simpa using hy)) h2]
      exact h
    · exact absurd h (by simp)
  | _ => exact absurd h (by simp [callee])

theorem yields_foot {P : Program} {R : CallRel} {s s' : AS} {o : Oper} {r : Res} (h : AYields P R o s r) (hn : s'.nx = s.nx) (ho : ∀ x, x ∈ o.op.operands.toList → opr s' x = opr s x)
    (hm : ∀ id, id ∈ r.rd → get s'.mem id = get s.mem id) : ∃ rd, AYields P R o s' { r with rd := rd } := by
  unfold AYields at h ⊢
  split at h
  · rename_i f args ts hop
    obtain ⟨x, hx, hy⟩ := h
    obtain ⟨rd, hy'⟩ := call_foot hy hn hm
    exact ⟨rd, x, callee_foot hx (fun y hy => ho y (by rw [hop]; exact hy)), hy'⟩
  · exact ⟨r.rd, ev_foot h hn ho hm⟩

/-! Numbers only grow. -/
theorem imp_le (n : Nat) (a : AV) : n ≤ (imp n a).2.2 := by
  cases a <;> first | exact imp1_le n _ | exact imps_le _ n
theorem call_nx {R : CallRel} {s : AS} {g : FuncId} {as : List AV} {r : Res} (h : CallYields R s g as r) : s.nx ≤ r.nx := by
  obtain ⟨as', v, h1, h2, ⟨_, rfl⟩ | ⟨z, hz, q, rfl⟩⟩ := h
  · exact Nat.le_refl _
  · exact imp_le _ _

theorem storeE_nx {P : Program} {s : AS} {t : TypeId} {p v : AV} {r : Res} (h : storeE P s t p v = some r) : s.nx ≤ r.nx := by
  unfold storeE at h
  repeat' split at h
  all_goals first | (obtain rfl := Option.some.inj h; exact Nat.le_refl _) | exact absurd h (by simp)
theorem buildSliceE_nx {P : Program} {s : AS} {t : TypeId} {len : Nat} {ps : List (Nat × AV)} {r : Res} (h : buildSliceE P s t len ps = some r) : s.nx ≤ r.nx := by
  unfold buildSliceE at h
  repeat' split at h
  all_goals first | (obtain rfl := Option.some.inj h; exact Nat.le_succ _) | exact absurd h (by simp)
theorem makeSliceE_nx {P : Program} {s : AS} {t : TypeId} {l c : AV} {r : Res} (h : makeSliceE P s t l c = some r) : s.nx ≤ r.nx := by
  unfold makeSliceE at h
  repeat' split at h
  all_goals first | (obtain rfl := Option.some.inj h; exact Nat.le_succ _) | exact absurd h (by simp)
theorem sliceE_nx {P : Program} {s : AS} {t : TypeId} {x : AV} {lo hi : Option AV} {r : Res} (h : sliceE P s t x lo hi = some r) : s.nx ≤ r.nx := by
  unfold sliceE at h
  repeat' split at h
  all_goals first | (obtain rfl := Option.some.inj h; exact Nat.le_refl _) | exact absurd h (by simp)
theorem indexAddrE_nx {P : Program} {s : AS} {t : TypeId} {x i : AV} {r : Res} (h : indexAddrE P s t x i = some r) : s.nx ≤ r.nx := by
  unfold indexAddrE at h
  repeat' split at h
  all_goals first | (obtain rfl := Option.some.inj h; exact Nat.le_refl _) | exact absurd h (by simp)
theorem builtinE_nx {P : Program} {s : AS} {b : Builtin} {ts : List TypeId} {xs : List AV} {r : Res} (h : builtinE P s b ts xs = some r) : s.nx ≤ r.nx := by
  unfold builtinE at h
  split at h
  · unfold lenE at h
    repeat' split at h
    all_goals first | (obtain rfl := Option.some.inj h; exact Nat.le_refl _) | exact absurd h (by simp)
  · unfold appendE at h
    repeat' split at h
    all_goals first | (obtain rfl := Option.some.inj h; exact Nat.le_succ _) | exact absurd h (by simp)
  · unfold copyE at h
    repeat' split at h
    all_goals first | (obtain rfl := Option.some.inj h; exact Nat.le_refl _) | exact absurd h (by simp)
  · obtain ⟨m, _, rfl⟩ := Option.map_eq_some_iff.1 h; exact Nat.le_refl _
  · obtain ⟨m, _, rfl⟩ := Option.map_eq_some_iff.1 h; exact Nat.le_refl _
  · exact absurd h (by simp)
theorem ev_nx {P : Program} {o : Oper} {s : AS} {r : Res} (h : ev P o s = some r) : s.nx ≤ r.nx := by
  unfold ev at h
  split at h
  all_goals try (repeat' split at h)
  all_goals first
    | exact storeE_nx h
    | exact buildSliceE_nx h
    | exact makeSliceE_nx h
    | exact sliceE_nx h
    | exact indexAddrE_nx h
    | exact builtinE_nx h
    | (obtain rfl := Option.some.inj h; exact Nat.le_refl _)
    | (exfalso; simp at h; done)
    | (unfold allocE at h; (repeat' split at h); all_goals first | (obtain rfl := Option.some.inj h; exact Nat.le_succ _) | exact absurd h (by simp))
    | (unfold boxE at h; (repeat' split at h); all_goals first | (obtain rfl := Option.some.inj h; exact Nat.le_succ _) | exact absurd h (by simp))
    | (unfold buildE at h; (repeat' split at h); all_goals first | (obtain rfl := Option.some.inj h; exact Nat.le_refl _) | exact absurd h (by simp))
    | (unfold loadE at h; (repeat' split at h); all_goals first | (obtain rfl := Option.some.inj h; exact Nat.le_refl _) | exact absurd h (by simp))
    | (unfold convE at h; (repeat' split at h); all_goals first | (obtain rfl := Option.some.inj h; exact Nat.le_refl _) | exact absurd h (by simp))
    | (unfold fieldAddrE at h; (repeat' split at h); all_goals first | (obtain rfl := Option.some.inj h; exact Nat.le_refl _) | exact absurd h (by simp))
    | (unfold fieldE at h; (repeat' split at h); all_goals first | (obtain rfl := Option.some.inj h; exact Nat.le_refl _) | exact absurd h (by simp))
    | (unfold indexE at h; (repeat' split at h); all_goals first | (obtain rfl := Option.some.inj h; exact Nat.le_refl _) | exact absurd h (by simp))
theorem yields_nx {P : Program} {R : CallRel} {s : AS} {o : Oper} {r : Res} (h : AYields P R o s r) : s.nx ≤ r.nx := by
  unfold AYields at h
  split at h
  · obtain ⟨x, _, hy⟩ := h; exact call_nx hy
  · exact ev_nx h

/-! One step of a region. -/
def StepC (P : Program) (R : CallRel) (ops : Array Oper) (o : Oper) (s : AS) (x : Option Res) : Prop :=
  match o.guard, x with
  | none, some r => AYields P R o s r
  | some (j, want), some r => guardVal ops s j = some (some want) ∧ AYields P R o s r
  | some (j, want), none => ∃ b, guardVal ops s j = some b ∧ (b == some want) = false
  | none, none => False
def stp (o : Oper) (x : Option Res) (s : AS) : AS :=
  match x with
  | some r => s.put o.dst r
  | none => s.junk o.dst
def logOf : Option Res → List Nat × List Nat
  | some r => (r.rd, r.d.map (·.1))
  | none => ([], [])
def nxOf (s : AS) : Option Res → Nat
  | some r => r.nx
  | none => s.nx

theorem StepC.nx {P : Program} {R : CallRel} {ops : Array Oper} {o : Oper} {s : AS} {x : Option Res} (h : StepC P R ops o s x) : s.nx ≤ nxOf s x := by
  unfold StepC at h
  split at h
  · exact yields_nx h
  · exact yields_nx h.2
  · exact Nat.le_refl _
  · exact h.elim

def Trace (P : Program) (R : CallRel) (ops : Array Oper) : List Oper → AS → List (Option Res) → AS → Prop
  | [], s, xs, s' => xs = [] ∧ s' = s
  | o :: rest, s, xs, s' => ∃ x xs', xs = x :: xs' ∧ StepC P R ops o s x ∧ Trace P R ops rest (stp o x s) xs' s'

theorem awops_trace {P : Program} {R : CallRel} {ops : Array Oper} {K : AS → Log → Prop} : ∀ {l : List Oper} {s : AS} {lg : Log}, awops P R ops l s lg K →
    ∃ xs s', Trace P R ops l s xs s' ∧ K s' ((xs.map logOf).reverse ++ lg)
  | [], s, lg, h => ⟨[], s, ⟨rfl, rfl⟩, by simpa using h⟩
  | o :: rest, s, lg, h => by
    have done : ∀ (x : Option Res) (b : Log), StepC P R ops o s x → b = logOf x :: lg → awops P R ops rest (stp o x s) b K → ∃ xs s', Trace P R ops (o :: rest) s xs s' ∧ K s' ((xs.map logOf).reverse ++ lg) := by
      rintro x b hs rfl h
      obtain ⟨xs, s', ht, hk⟩ := awops_trace h
      exact ⟨x :: xs, s', ⟨x, xs, rfl, hs, ht⟩, by simpa using hk⟩
    unfold awops at h
    split at h
    · rename_i hg
      obtain ⟨r, hy, hk⟩ := aop_yields h
      exact done (some r) _ (by unfold StepC; rw [hg]; exact hy) rfl hk
    · rename_i j want hg
      unfold optK at h
      split at h
      · rename_i b hb
        unfold Br at h
        split at h
        · rename_i he
          obtain rfl : b = some want := by simpa using he
          obtain ⟨r, hy, hk⟩ := aop_yields h
          exact done (some r) _ (by unfold StepC; rw [hg]; exact ⟨hb, hy⟩) rfl hk
        · rename_i he
          exact done none _ (by unfold StepC; rw [hg]; exact ⟨b, hb, by simpa using he⟩) rfl h
      · exact h.elim
end Go.Ab
end

section
namespace Go.Ab
open Go.RowKit (Below)

theorem tm_put {E E' : Env} {n : Nat} {tm : List (Nat × AV)} {a : Act} {dst : Option Tmp} {v : AV} {x : Value} (hle : E.Le E') (hT : TmRel E tm a) (hn : a.tmps.size = n) (hd : ∀ d, dst = some d → d < n) (hr : Rep E' v x) :
    TmRel E' (dst.elim tm fun d => (d, v) :: tm) (a.put dst x) ∧ (a.put dst x).tmps.size = n ∧ (a.put dst x).defers = a.defers := by
  cases dst with
  | none => exact ⟨fun t u ht => by obtain ⟨y, h1, h2⟩ := hT t u ht; exact ⟨y, h1, h2.mono hle⟩, hn, rfl⟩
  | some d =>
    refine ⟨fun t u ht => ?_, by simpa [Act.put] using hn, rfl⟩
    simp only [Option.elim, get_cons] at ht
    split at ht
    · rename_i e
      subst e
      obtain rfl := Option.some.inj ht
      exact ⟨x, by simp only [Act.put, Array.getElem?_setIfInBounds]; simp [show d < a.tmps.size by rw [hn]; exact hd d rfl], hr⟩
    · rename_i e
      obtain ⟨y, h1, h2⟩ := hT t u ht
      exact ⟨y, by simp only [Act.put, Array.getElem?_setIfInBounds]; rw [if_neg e]; exact h1, h2.mono hle⟩

theorem good_put {E E' : Env} {n : Nat} {w0 : World} {okb : Nat → Prop} {s : AS} {a : Act} {dst : Option Tmp} {r : Res} {x : Value} (hG : GoodE E n w0 okb s a) (hS : Stepped E w0 okb s.mem s.nx r x E') (hd : ∀ d, dst = some d → d < n) :
    GoodE E' n w0 okb (s.put dst r) (a.put dst x) := by
  obtain ⟨hF, hD, hn, hT, hM⟩ := hG
  obtain ⟨h1, h2, h3⟩ := tm_put hS.le hT hn hd hS.rep
  cases dst <;> exact ⟨hS.frm, h3.trans hD, h2, h1, hS.mem⟩

theorem good_junk {E : Env} {n : Nat} {w0 : World} {okb : Nat → Prop} {s : AS} {a : Act} {dst : Option Tmp} (hG : GoodE E n w0 okb s a) (hd : ∀ d, dst = some d → d < n) :
    GoodE E n w0 okb (s.junk dst) (a.put dst undef) := by
  obtain ⟨hF, hD, hn, hT, hM⟩ := hG
  obtain ⟨h1, h2, h3⟩ := tm_put (.refl E) hT hn hd (.pure (.sc undef))
  cases dst <;> exact ⟨hF, h3.trans hD, h2, h1, hM⟩

theorem yielded_sound {E : Env} {ops : Array Oper} {s : AS} {a : Act} {j : Nat} {b : Option Bool} (hT : TmRel E s.tm a) (h : guardVal ops s j = some b) : yielded ops a.tmps j = b := by
  unfold guardVal at h
  unfold yielded
  split at h
  · rename_i d hd
    rw [hd]
    split at h
    · rename_i c hg
      obtain rfl := Option.some.inj h
      obtain ⟨x, h1, h2⟩ := hT d _ hg
      obtain rfl := h2.sc_inv
      simp [h1]
    · rename_i c hg
      obtain rfl := Option.some.inj h
      obtain ⟨x, h1, h2⟩ := hT d _ hg
      obtain rfl := h2.sc_inv
      simp [h1]
    · exact absurd h (by simp)
  · exact absurd h (by simp)

theorem stepC_sound {P : Program} {R : CallRel} (hR : RSound P R) {ops : Array Oper} {E : Env} {n : Nat} {w0 : World} {okb : Nat → Prop} {s : AS} {o : Oper} {i : Nat} {a : Act} {x : Option Res} (hi : ops[i]? = some o) (hG : GoodE E n w0 okb s a)
    (hc : StepC P R ops o s x) (hid : ∀ id, s.nx ≤ id → id < nxOf s x → ¬ E.al id) (hd : ∀ d, o.dst = some d → d < n) {K : Act → World → Prop} {Q : Exit → Act → World → Prop}
    (hK : ∀ E' a', GoodE E' n w0 okb (stp o x s) a' → (∀ id, E'.al id ↔ E.al id ∨ (s.nx ≤ id ∧ id < nxOf s x)) → K a' E'.w) : wpOp P ops Q i K a E.w := by
  obtain ⟨hF, hD, hn, hT, hM⟩ := id hG
  unfold wpOp
  rw [hi]
  simp only
  unfold StepC at hc
  split at hc
  · rename_i r hg
    rw [if_pos (by simp [Region.wanted, hg])]
    exact .inl (op_sound hR hF hM hT hc hid fun y E' hS => hK E' _ (good_put hG hS hd) hS.al)
  · rename_i j want r hg
    rw [if_pos (by simp [Region.wanted, hg, yielded_sound hT hc.1])]
    exact .inl (op_sound hR hF hM hT hc.2 hid fun y E' hS => hK E' _ (good_put hG hS hd) hS.al)
  · rename_i j want hg
    obtain ⟨b, hb, hne⟩ := hc
    rw [if_neg (by simp [Region.wanted, hg, yielded_sound hT hb]; simpa using hne)]
    exact hK E _ (good_junk hG hd) fun id => ⟨.inl, fun h => h.elim (fun h => h) (fun h => by simp only [nxOf] at h; omega)⟩
  · exact hc.elim

theorem stp_nx (o : Oper) (x : Option Res) (s : AS) : (stp o x s).nx = nxOf s x := by cases x <;> rfl

/-- A region in text order. -/
theorem text_sound {P : Program} {R : CallRel} (hR : RSound P R) {ops : Array Oper} {n : Nat} {w0 : World} {okb : Nat → Prop} {Q : Exit → Act → World → Prop} : ∀ {l : List Oper} {k : Nat} {s : AS} {xs : List (Option Res)} {s' : AS} {a : Act} {w : World},
    (∀ j o, l[j]? = some o → ops[k + j]? = some o) → (∀ o, o ∈ l → ∀ d, o.dst = some d → d < n) → Trace P R ops l s xs s' → Good n w0 okb s a w → (∀ a' w', Good n w0 okb s' a' w' → Q .normal a' w') →
    wpOps P ops Q (List.range' k l.length) a w
  | [], k, s, xs, s', a, w, _, _, ht, hg, hQ => by
    obtain ⟨_, rfl⟩ := ht
    exact hQ a w hg
  | o :: rest, k, s, xs, s', a, w, hl, hd, ht, hg, hQ => by
    obtain ⟨x, xs', rfl, hs, ht⟩ := ht
    obtain ⟨E, rfl, hal, hG⟩ := hg
    rw [List.length_cons, List.range'_succ, wpOps_cons]
    refine stepC_sound hR (hl 0 o rfl) hG hs (fun id h1 _ h => by have := hal id h; omega) (hd o List.mem_cons_self) fun E' a' hG' hal' => ?_
    refine text_sound hR (fun j o' h => ?_) (fun o' h => hd o' (List.mem_cons_of_mem _ h)) ht ⟨E', rfl, fun id h => ?_, hG'⟩ hQ
    · have := hl (j + 1) o' (by simpa using h)
      rw [← this]; congr 1; omega
    · rw [stp_nx]
      have := hs.nx
      rcases (hal' id).1 h with h | h
      · have := hal id h; omega
      · exact h.2
end Go.Ab
end

section
namespace Go.Ab
open Go.RowKit (Below)

def stL : List (Oper × Option Res) → (Nat → Bool) → Nat → AS → AS
  | [], _, _, s => s
  | (o, x) :: zs, L, k, s => stL zs L (k + 1) (if L k = true then stp o x s else s)

def Same (s s' : AS) : Prop := (∀ t, get s.tm t = get s'.tm t) ∧ ∀ i, get s.mem i = get s'.mem i
theorem Same.refl (s : AS) : Same s s := ⟨fun _ => rfl, fun _ => rfl⟩
theorem Same.trans {a b c : AS} (h : Same a b) (k : Same b c) : Same a c := ⟨fun t => (h.1 t).trans (k.1 t), fun i => (h.2 i).trans (k.2 i)⟩
theorem Same.symm {a b : AS} (h : Same a b) : Same b a := ⟨fun t => (h.1 t).symm, fun i => (h.2 i).symm⟩

def rvOf : Option Res → AV
  | some r => r.v
  | none => .sc undef
def rmOf : Option Res → List (Nat × Arr)
  | some r => r.d
  | none => []

theorem stp_tm (o : Oper) (x : Option Res) (s : AS) (t : Nat) : get (stp o x s).tm t = if o.dst = some t then some (rvOf x) else get s.tm t := by
  cases hd : o.dst with
  | none => cases x <;> simp [stp, AS.put, AS.junk, hd]
  | some d => cases x <;> simp [stp, AS.put, AS.junk, hd, get_cons, rvOf]
theorem stp_mem (o : Oper) (x : Option Res) (s : AS) (i : Nat) : get (stp o x s).mem i = match get (rmOf x) i with | some v => some v | none => get s.mem i := by
  cases x with
  | none => rfl
  | some r =>
    show get (r.d ++ s.mem) i = _
    rw [get_append]
    show _ = match get r.d i with | some v => some v | none => get s.mem i
    cases get r.d i <;> rfl

theorem stp_same {o : Oper} {x : Option Res} {s s' : AS} (h : Same s s') : Same (stp o x s) (stp o x s') :=
  ⟨fun t => by rw [stp_tm, stp_tm, h.1 t], fun i => by rw [stp_mem, stp_mem, h.2 i]⟩
theorem stL_same : ∀ {zs : List (Oper × Option Res)} {L : Nat → Bool} {k : Nat} {s s' : AS}, Same s s' → Same (stL zs L k s) (stL zs L k s')
  | [], _, _, _, _, h => h
  | (o, x) :: zs, L, k, s, s', h => by
    unfold stL
    split
    · exact stL_same (stp_same h)
    · exact stL_same h

def Aparted (o o2 : Oper) (x x2 : Option Res) : Prop := (∀ d, o.dst = some d → o2.dst ≠ some d) ∧ ∀ i v, get (rmOf x) i = some v → get (rmOf x2) i = none

theorem stp_comm {o o2 : Oper} {x x2 : Option Res} {s : AS} (h : Aparted o o2 x x2) : Same (stp o2 x2 (stp o x s)) (stp o x (stp o2 x2 s)) := by
  refine ⟨fun t => ?_, fun i => ?_⟩
  · rw [stp_tm, stp_tm, stp_tm, stp_tm]
    by_cases h1 : o.dst = some t
    · simp [h1, h.1 t h1]
    · rw [if_neg h1, if_neg h1]
  · rw [stp_mem, stp_mem, stp_mem, stp_mem]
    cases h1 : get (rmOf x) i with
    | none => rfl
    | some v => rw [h.2 i v h1]

theorem stL_push {o : Oper} {x : Option Res} : ∀ {zs : List (Oper × Option Res)} {L : Nat → Bool} {k : Nat} {s : AS}, (∀ j o2 x2, zs[j]? = some (o2, x2) → L (k + j) = true → Aparted o o2 x x2) →
    Same (stL zs L k (stp o x s)) (stp o x (stL zs L k s))
  | [], _, _, s, _ => .refl _
  | (o2, x2) :: zs, L, k, s, h => by
    have hr : ∀ j o3 x3, zs[j]? = some (o3, x3) → L (k + 1 + j) = true → Aparted o o3 x x3 := fun j o3 x3 hj hL => h (j + 1) o3 x3 (by simpa using hj) (by rw [← hL]; congr 1; omega)
    unfold stL
    split
    · rename_i hL
      exact (stL_same (stp_comm (h 0 o2 x2 rfl hL))).trans (stL_push hr)
    · exact stL_push hr

theorem stL_congr : ∀ {zs : List (Oper × Option Res)} {L L' : Nat → Bool} {k : Nat} {s : AS}, (∀ j, j < zs.length → L (k + j) = L' (k + j)) → stL zs L k s = stL zs L' k s
  | [], _, _, _, _, _ => rfl
  | (o, x) :: zs, L, L', k, s, h => by
    unfold stL
    rw [show L k = L' k from h 0 (by simp)]
    exact stL_congr fun j hj => by
      have := h (j + 1) (by simpa using hj)
      rwa [show k + (j + 1) = k + 1 + j by omega] at this

theorem stL_insert {o : Oper} {x : Option Res} : ∀ {zs : List (Oper × Option Res)} {i : Nat} {L L' : Nat → Bool} {k : Nat} {s : AS}, zs[i]? = some (o, x) → L (k + i) = false → L' (k + i) = true → (∀ j, j ≠ k + i → L' j = L j) →
    (∀ j o2 x2, i < j → zs[j]? = some (o2, x2) → L (k + j) = true → Aparted o o2 x x2) → Same (stL zs L' k s) (stp o x (stL zs L k s))
  | [], i, _, _, _, _, h, _, _, _, _ => by simp at h
  | (o1, x1) :: zs, 0, L, L', k, s, h, h0, h1, he, ha => by
    obtain ⟨rfl, rfl⟩ : o1 = o ∧ x1 = x := by simpa using h
    have e0 : L k = false := h0
    have e1 : L' k = true := h1
    unfold stL
    rw [e0, e1]
    simp only [Bool.false_eq_true, if_false, if_true]
    rw [stL_congr (L := L') (L' := L) fun j _ => he _ (by omega)]
    exact stL_push fun j o2 x2 hj hL => ha (j + 1) o2 x2 (by omega) (by simpa using hj) (by rw [← hL]; congr 1; omega)
  | (o1, x1) :: zs, i + 1, L, L', k, s, h, h0, h1, he, ha => by
    unfold stL
    rw [he k (by omega)]
    exact stL_insert (i := i) (by simpa using h) (by rw [← h0]; congr 1; omega) (by rw [← h1]; congr 1; omega) (fun j hj => he j (by omega))
      fun j o2 x2 hj hz hL => ha (j + 1) o2 x2 (by omega) (by simpa using hz) (by rw [← hL]; congr 1; omega)

theorem stL_tm {t : Nat} : ∀ {zs : List (Oper × Option Res)} {L L' : Nat → Bool} {k : Nat} {s s' : AS}, (∀ j o x, zs[j]? = some (o, x) → L (k + j) ≠ L' (k + j) → o.dst ≠ some t) → get s.tm t = get s'.tm t →
    get (stL zs L k s).tm t = get (stL zs L' k s').tm t
  | [], _, _, _, _, _, _, h => h
  | (o, x) :: zs, L, L', k, s, s', hn, h => by
    unfold stL
    refine stL_tm (fun j o2 x2 hj hL => hn (j + 1) o2 x2 (by simpa using hj) (by rwa [show k + (j + 1) = k + 1 + j by omega])) ?_
    have h0 := hn 0 o x rfl
    by_cases h1 : L k = true <;> by_cases h2 : L' k = true
    · rw [if_pos h1, if_pos h2, stp_tm, stp_tm, h]
    · rw [if_pos h1, if_neg h2, stp_tm, if_neg (h0 (by simp only [Nat.add_zero]; rw [h1]; exact fun e => h2 e.symm)), h]
    · rw [if_neg h1, if_pos h2, stp_tm, if_neg (h0 (by simp only [Nat.add_zero]; rw [h2]; exact h1)), h]
    · rw [if_neg h1, if_neg h2, h]

theorem stL_mem {t : Nat} : ∀ {zs : List (Oper × Option Res)} {L L' : Nat → Bool} {k : Nat} {s s' : AS}, (∀ j o x, zs[j]? = some (o, x) → L (k + j) ≠ L' (k + j) → get (rmOf x) t = none) → get s.mem t = get s'.mem t →
    get (stL zs L k s).mem t = get (stL zs L' k s').mem t
  | [], _, _, _, _, _, _, h => h
  | (o, x) :: zs, L, L', k, s, s', hn, h => by
    unfold stL
    refine stL_mem (fun j o2 x2 hj hL => hn (j + 1) o2 x2 (by simpa using hj) (by rwa [show k + (j + 1) = k + 1 + j by omega])) ?_
    have h0 := hn 0 o x rfl
    by_cases h1 : L k = true <;> by_cases h2 : L' k = true
    · rw [if_pos h1, if_pos h2, stp_mem, stp_mem, h]
    · rw [if_pos h1, if_neg h2, stp_mem, h0 (by simp only [Nat.add_zero]; rw [h1]; exact fun e => h2 e.symm), h]
    · rw [if_neg h1, if_pos h2, stp_mem, h0 (by simp only [Nat.add_zero]; rw [h2]; exact h1), h]
    · rw [if_neg h1, if_neg h2, h]

theorem stL_none : ∀ {zs : List (Oper × Option Res)} {L : Nat → Bool} {k : Nat} {s : AS}, (∀ j, k ≤ j → L j = false) → stL zs L k s = s
  | [], _, _, _, _ => rfl
  | (o, x) :: zs, L, k, s, h => by
    unfold stL
    rw [if_neg (by rw [h k (Nat.le_refl _)]; simp)]
    exact stL_none fun j hj => h j (by omega)

/-- Behind the first i operations. -/
theorem stL_succ {o : Oper} {x : Option Res} : ∀ {zs : List (Oper × Option Res)} {i k : Nat} {s : AS}, zs[i]? = some (o, x) →
    stL zs (fun q => decide (q < k + i + 1)) k s = stp o x (stL zs (fun q => decide (q < k + i)) k s)
  | [], i, _, _, h => by simp at h
  | (o1, x1) :: zs, 0, k, s, h => by
    obtain ⟨rfl, rfl⟩ : o1 = o ∧ x1 = x := by simpa using h
    unfold stL
    rw [if_pos (by simp), if_neg (by simp), stL_none (by intro j hj; simp only [decide_eq_false_iff_not]; omega), stL_none (by intro j hj; simp only [decide_eq_false_iff_not]; omega)]
  | (o1, x1) :: zs, i + 1, k, s, h => by
    unfold stL
    rw [if_pos (by simp; omega), if_pos (by simp)]
    have := stL_succ (k := k + 1) (s := stp o1 x1 s) (show zs[i]? = some (o, x) by simpa using h)
    rw [show k + (i + 1) + 1 = k + 1 + i + 1 by omega, show k + (i + 1) = k + 1 + i by omega]
    exact this

theorem trace_at {P : Program} {R : CallRel} {ops : Array Oper} : ∀ {l : List Oper} {k : Nat} {s : AS} {xs : List (Option Res)} {s' : AS}, Trace P R ops l s xs s' →
    (l.zip xs).map (·.1) = l ∧ (l.zip xs).map (·.2) = xs ∧ (∀ j o x, (l.zip xs)[j]? = some (o, x) → StepC P R ops o (stL (l.zip xs) (fun q => decide (q < k + j)) k s) x) ∧ stL (l.zip xs) (fun q => decide (q < k + l.length)) k s = s'
  | [], k, s, xs, s', h => by
    obtain ⟨rfl, rfl⟩ := h
    exact ⟨rfl, rfl, by simp, rfl⟩
  | o :: rest, k, s, xs, s', h => by
    obtain ⟨x, xs', rfl, hs, ht⟩ := h
    obtain ⟨h1, h2, h3, h4⟩ := trace_at (k := k + 1) ht
    refine ⟨by simp [h1], by simp [h2], fun j o2 x2 hj => ?_, ?_⟩
    · cases j with
      | zero =>
        obtain ⟨rfl, rfl⟩ : o = o2 ∧ x = x2 := by simpa using hj
        rw [stL_none (by simp)]
        exact hs
      | succ j =>
        have := h3 j o2 x2 (by simpa using hj)
        simp only [List.zip_cons_cons, stL]
        rw [if_pos (by simp), show k + (j + 1) = k + 1 + j by omega]
        exact this
    · simp only [List.zip_cons_cons, stL, List.length_cons]
      rw [if_pos (by simp), stL_congr (L' := fun q => decide (q < k + 1 + rest.length)) (fun j _ => by simp only [decide_eq_decide]; omega)]
      exact h4

theorem opr_agree {s s' : AS} {x : Operand} (h : ∀ t, x = .tmp t → get s'.tm t = get s.tm t) : opr s' x = opr s x := by
  cases x with
  | tmp t => exact h t rfl
  | _ => rfl

/-- The same operation with the same effect where what it looks at is the same. -/
theorem stepC_foot {P : Program} {R : CallRel} {ops : Array Oper} {o : Oper} {s s' : AS} {x : Option Res} (h : StepC P R ops o s x) (hn : s'.nx = s.nx) (ht : ∀ t, t ∈ o.looksAt ops → get s'.tm t = get s.tm t)
    (hm : ∀ id, id ∈ (logOf x).1 → get s'.mem id = get s.mem id) : ∃ x', StepC P R ops o s' x' ∧ (∀ s, stp o x' s = stp o x s) ∧ ∀ s, nxOf s x' = nxOf s x := by
  have ho : ∀ y, y ∈ o.op.operands.toList → opr s' y = opr s y := fun y hy => opr_agree fun t e => ht t (by
    subst e
    unfold Oper.looksAt
    exact List.mem_append.2 (.inl (List.mem_filterMap.2 ⟨_, hy, rfl⟩)))
  have hgd : ∀ j want, o.guard = some (j, want) → guardVal ops s' j = guardVal ops s j := by
    intro j want hg
    unfold guardVal
    cases hd : (ops[j]?).bind (·.dst) with
    | none => rfl
    | some d => simp only; rw [ht d (by unfold Oper.looksAt; rw [hg]; simp [hd])]
  unfold StepC at h
  split at h
  · rename_i r hg
    obtain ⟨rd, hy⟩ := yields_foot h hn ho hm
    exact ⟨some { r with rd := rd }, by unfold StepC; rw [hg]; exact hy, fun _ => rfl, fun _ => rfl⟩
  · rename_i j want r hg
    obtain ⟨rd, hy⟩ := yields_foot h.2 hn ho hm
    exact ⟨some { r with rd := rd }, by unfold StepC; rw [hg]; exact ⟨(hgd j want hg).trans h.1, hy⟩, fun _ => rfl, fun _ => rfl⟩
  · rename_i j want hg
    obtain ⟨b, hb, hne⟩ := h
    exact ⟨none, by unfold StepC; rw [hg]; exact ⟨b, (hgd j want hg).trans hb, hne⟩, fun _ => rfl, fun _ => rfl⟩
  · exact h.elim

theorem GoodE.same {E : Env} {n : Nat} {w0 : World} {okb : Nat → Prop} {s s' : AS} {a : Act} (h : GoodE E n w0 okb s a) (hs : Same s s') : GoodE E n w0 okb s' a := by
  obtain ⟨hF, hD, hn, hT, hM⟩ := h
  exact ⟨hF, hD, hn, fun t v ht => hT t v ((hs.1 t).trans ht), ⟨fun id arr hg => hM.arr id arr ((hs.2 id).trans hg), fun id id' arr arr' b o z o' z' h1 h2 => hM.far id id' arr arr' b o z o' z' ((hs.2 id).trans h1) ((hs.2 id').trans h2)⟩⟩
end Go.Ab
end
