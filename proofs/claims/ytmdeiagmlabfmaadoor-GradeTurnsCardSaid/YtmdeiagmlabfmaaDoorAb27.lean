/- The abstract interpreter: regions in text order. -/
import Derived.Test.YtmdeiagmlabfmaaDoorAb24
set_option linter.unusedVariables false
set_option linter.unusedSimpArgs false
set_option linter.unusedSectionVars false

section
namespace Go.Ab
open Go.RowKit (Below)

theorem tm_put {E E' : Env} {n : Nat} {tm : List (Nat × AV)} {a : Act} {dst : Option Tmp} {v : AV} {x : Value} (hle : E.Le E') (hT : TmRel E tm a) (hn : a.tmps.size = n) (hd : ∀ d, dst = some d → d < n) (hr : Rep E' v x) :
    TmRel E' (dst.elim tm fun d => (d, v) :: tm) (a.put dst x) ∧ (a.put dst x).tmps.size = n ∧ (a.put dst x).defers = a.defers := by
  cases dst with
  | none => exact ⟨fun t u ht => by obtain ⟨y, h1, h2⟩ := hT t u ht; exact ⟨y, h1, h2.mono hle⟩, hn, rfl⟩
  | some d =>
    refine ⟨fun t u ht => ?_, by simpa [Act.put] using hn, rfl⟩
    simp only [Option.elim, get_cons] at ht
    split at ht
    · rename_i e
      subst e
      obtain rfl := Option.some.inj ht
      exact ⟨x, by simp only [Act.put, Array.getElem?_setIfInBounds]; simp [show d < a.tmps.size by rw [hn]; exact hd d rfl], hr⟩
    · rename_i e
      obtain ⟨y, h1, h2⟩ := hT t u ht
      exact ⟨y, by simp only [Act.put, Array.getElem?_setIfInBounds]; rw [if_neg e]; exact h1, h2.mono hle⟩

theorem good_put {E E' : Env} {n : Nat} {w0 : World} {okb : Nat → Prop} {s : AS} {a : Act} {dst : Option Tmp} {r : Res} {x : Value} (hG : GoodE E n w0 okb s a) (hS : Stepped E w0 okb s.mem s.nx r x E') (hd : ∀ d, dst = some d → d < n) :
    GoodE E' n w0 okb (s.put dst r) (a.put dst x) := by
  obtain ⟨hF, hD, hn, hT, hM⟩ := hG
  obtain ⟨h1, h2, h3⟩ := tm_put hS.le hT hn hd hS.rep
  cases dst <;> exact ⟨hS.frm, h3.trans hD, h2, h1, hS.mem⟩

theorem good_junk {E : Env} {n : Nat} {w0 : World} {okb : Nat → Prop} {s : AS} {a : Act} {dst : Option Tmp} (hG : GoodE E n w0 okb s a) (hd : ∀ d, dst = some d → d < n) :
    GoodE E n w0 okb (s.junk dst) (a.put dst undef) := by
  obtain ⟨hF, hD, hn, hT, hM⟩ := hG
  obtain ⟨h1, h2, h3⟩ := tm_put (.refl E) hT hn hd (.pure (.sc undef))
  cases dst <;> exact ⟨hF, h3.trans hD, h2, h1, hM⟩

theorem yielded_sound {E : Env} {ops : Array Oper} {s : AS} {a : Act} {j : Nat} {b : Option Bool} (hT : TmRel E s.tm a) (h : guardVal ops s j = some b) : yielded ops a.tmps j = b := by
  unfold guardVal at h
  unfold yielded
  split at h
  · rename_i d hd
    rw [hd]
    split at h
    · rename_i c hg
      obtain rfl := Option.some.inj h
      obtain ⟨x, h1, h2⟩ := hT d _ hg
      obtain rfl := h2.sc_inv
      simp [h1]
    · rename_i c hg
      obtain rfl := Option.some.inj h
      obtain ⟨x, h1, h2⟩ := hT d _ hg
      obtain rfl := h2.sc_inv
      simp [h1]
    · exact absurd h (by simp)
  · exact absurd h (by simp)

theorem stepC_sound {P : Program} {R : CallRel} (hR : RSound P R) {ops : Array Oper} {E : Env} {n : Nat} {w0 : World} {okb : Nat → Prop} {s : AS} {o : Oper} {i : Nat} {a : Act} {x : Option Res} (hi : ops[i]? = some o) (hG : GoodE E n w0 okb s a)
    (hc : StepC P R ops o s x) (hid : ∀ id, s.nx ≤ id → id < nxOf s x → ¬ E.al id) (hd : ∀ d, o.dst = some d → d < n) {K : Act → World → Prop} {Q : Exit → Act → World → Prop}
    (hK : ∀ E' a', GoodE E' n w0 okb (stp o x s) a' → (∀ id, E'.al id ↔ E.al id ∨ (s.nx ≤ id ∧ id < nxOf s x)) → K a' E'.w) : wpOp P ops Q i K a E.w := by
  obtain ⟨hF, hD, hn, hT, hM⟩ := id hG
  unfold wpOp
  rw [hi]
  simp only
  unfold StepC at hc
  split at hc
  · rename_i r hg
    rw [if_pos (by simp [Region.wanted, hg])]
    exact .inl (op_sound hR hF hM hT hc hid fun y E' hS => hK E' _ (good_put hG hS hd) hS.al)
  · rename_i j want r hg
    rw [if_pos (by simp [Region.wanted, hg, yielded_sound hT hc.1])]
    exact .inl (op_sound hR hF hM hT hc.2 hid fun y E' hS => hK E' _ (good_put hG hS hd) hS.al)
  · rename_i j want hg
    obtain ⟨b, hb, hne⟩ := hc
    rw [if_neg (by simp [Region.wanted, hg, yielded_sound hT hb]; simpa using hne)]
    exact hK E _ (good_junk hG hd) fun id => ⟨.inl, fun h => h.elim (fun h => h) (fun h => by simp only [nxOf] at h; omega)⟩
  · exact hc.elim

theorem stp_nx (o : Oper) (x : Option Res) (s : AS) : (stp o x s).nx = nxOf s x := by cases x <;> rfl

/-- A region in text order. -/
theorem text_sound {P : Program} {R : CallRel} (hR : RSound P R) {ops : Array Oper} {n : Nat} {w0 : World} {okb : Nat → Prop} {Q : Exit → Act → World → Prop} : ∀ {l : List Oper} {k : Nat} {s : AS} {xs : List (Option Res)} {s' : AS} {a : Act} {w : World},
    (∀ j o, l[j]? = some o → ops[k + j]? = some o) → (∀ o, o ∈ l → ∀ d, o.dst = some d → d < n) → Trace P R ops l s xs s' → Good n w0 okb s a w → (∀ a' w', Good n w0 okb s' a' w' → Q .normal a' w') →
    wpOps P ops Q (List.range' k l.length) a w
  | [], k, s, xs, s', a, w, _, _, ht, hg, hQ => by
    obtain ⟨_, rfl⟩ := ht
    exact hQ a w hg
  | o :: rest, k, s, xs, s', a, w, hl, hd, ht, hg, hQ => by
    obtain ⟨x, xs', rfl, hs, ht⟩ := ht
    obtain ⟨E, rfl, hal, hG⟩ := hg
    rw [List.length_cons, List.range'_succ, wpOps_cons]
    refine stepC_sound hR (hl 0 o rfl) hG hs (fun id h1 _ h => by have := hal id h; omega) (hd o List.mem_cons_self) fun E' a' hG' hal' => ?_
    refine text_sound hR (fun j o' h => ?_) (fun o' h => hd o' (List.mem_cons_of_mem _ h)) ht ⟨E', rfl, fun id h => ?_, hG'⟩ hQ
    · have := hl (j + 1) o' (by simpa using h)
      rw [← this]; congr 1; omega
    · rw [stp_nx]
      have := hs.nx
      rcases (hal' id).1 h with h | h
      · have := hal id h; omega
      · exact h.2
end Go.Ab
end

section
namespace Go.Ab
open Go.RowKit (Below)

def stL : List (Oper × Option Res) → (Nat → Bool) → Nat → AS → AS
  | [], _, _, s => s
  | (o, x) :: zs, L, k, s => stL zs L (k + 1) (if L k = true then stp o x s else s)

def Same (s s' : AS) : Prop := (∀ t, get s.tm t = get s'.tm t) ∧ ∀ i, get s.mem i = get s'.mem i
theorem Same.refl (s : AS) : Same s s := ⟨fun _ => rfl, fun _ => rfl⟩
theorem Same.trans {a b c : AS} (h : Same a b) (k : Same b c) : Same a c := ⟨fun t => (h.1 t).trans (k.1 t), fun i => (h.2 i).trans (k.2 i)⟩
theorem Same.symm {a b : AS} (h : Same a b) : Same b a := ⟨fun t => (h.1 t).symm, fun i => (h.2 i).symm⟩

def rvOf : Option Res → AV
  | some r => r.v
  | none => .sc undef
def rmOf : Option Res → List (Nat × Arr)
  | some r => r.d
  | none => []

theorem stp_tm (o : Oper) (x : Option Res) (s : AS) (t : Nat) : get (stp o x s).tm t = if o.dst = some t then some (rvOf x) else get s.tm t := by
  cases hd : o.dst with
  | none => cases x <;> simp [stp, AS.put, AS.junk, hd]
  | some d => cases x <;> simp [stp, AS.put, AS.junk, hd, get_cons, rvOf]
theorem stp_mem (o : Oper) (x : Option Res) (s : AS) (i : Nat) : get (stp o x s).mem i = match get (rmOf x) i with | some v => some v | none => get s.mem i := by
  cases x with
  | none => rfl
  | some r =>
    show get (r.d ++ s.mem) i = _
    rw [get_append]
    show _ = match get r.d i with | some v => some v | none => get s.mem i
    cases get r.d i <;> rfl

theorem stp_same {o : Oper} {x : Option Res} {s s' : AS} (h : Same s s') : Same (stp o x s) (stp o x s') :=
  ⟨fun t => by rw [stp_tm, stp_tm, h.1 t], fun i => by rw [stp_mem, stp_mem, h.2 i]⟩
theorem stL_same : ∀ {zs : List (Oper × Option Res)} {L : Nat → Bool} {k : Nat} {s s' : AS}, Same s s' → Same (stL zs L k s) (stL zs L k s')
  | [], _, _, _, _, h => h
  | (o, x) :: zs, L, k, s, s', h => by
    unfold stL
    split
    · exact stL_same (stp_same h)
    · exact stL_same h

def Aparted (o o2 : Oper) (x x2 : Option Res) : Prop := (∀ d, o.dst = some d → o2.dst ≠ some d) ∧ ∀ i v, get (rmOf x) i = some v → get (rmOf x2) i = none

theorem stp_comm {o o2 : Oper} {x x2 : Option Res} {s : AS} (h : Aparted o o2 x x2) : Same (stp o2 x2 (stp o x s)) (stp o x (stp o2 x2 s)) := by
  refine ⟨fun t => ?_, fun i => ?_⟩
  · rw [stp_tm, stp_tm, stp_tm, stp_tm]
    by_cases h1 : o.dst = some t
    · simp [h1, h.1 t h1]
    · rw [if_neg h1, if_neg h1]
  · rw [stp_mem, stp_mem, stp_mem, stp_mem]
    cases h1 : get (rmOf x) i with
    | none => rfl
    | some v => rw [h.2 i v h1]

theorem stL_push {o : Oper} {x : Option Res} : ∀ {zs : List (Oper × Option Res)} {L : Nat → Bool} {k : Nat} {s : AS}, (∀ j o2 x2, zs[j]? = some (o2, x2) → L (k + j) = true → Aparted o o2 x x2) →
    Same (stL zs L k (stp o x s)) (stp o x (stL zs L k s))
  | [], _, _, s, _ => .refl _
  | (o2, x2) :: zs, L, k, s, h => by
    have hr : ∀ j o3 x3, zs[j]? = some (o3, x3) → L (k + 1 + j) = true → Aparted o o3 x x3 := fun j o3 x3 hj hL => h (j + 1) o3 x3 (by simpa using hj) (by rw [← hL]; congr 1; omega)
    unfold stL
    split
    · rename_i hL
      exact (stL_same (stp_comm (h 0 o2 x2 rfl hL))).trans (stL_push hr)
    · exact stL_push hr

theorem stL_congr : ∀ {zs : List (Oper × Option Res)} {L L' : Nat → Bool} {k : Nat} {s : AS}, (∀ j, j < zs.length → L (k + j) = L' (k + j)) → stL zs L k s = stL zs L' k s
  | [], _, _, _, _, _ => rfl
  | (o, x) :: zs, L, L', k, s, h => by
    unfold stL
    rw [show L k = L' k from h 0 (by simp)]
    exact stL_congr fun j hj => by
      have := h (j + 1) (by simpa using hj)
      rwa [show k + (j + 1) = k + 1 + j by omega] at this

theorem stL_insert {o : Oper} {x : Option Res} : ∀ {zs : List (Oper × Option Res)} {i : Nat} {L L' : Nat → Bool} {k : Nat} {s : AS}, zs[i]? = some (o, x) → L (k + i) = false → L' (k + i) = true → (∀ j, j ≠ k + i → L' j = L j) →
    (∀ j o2 x2, i < j → zs[j]? = some (o2, x2) → L (k + j) = true → Aparted o o2 x x2) → Same (stL zs L' k s) (stp o x (stL zs L k s))
  | [], i, _, _, _, _, h, _, _, _, _ => by simp at h
  | (o1, x1) :: zs, 0, L, L', k, s, h, h0, h1, he, ha => by
    obtain ⟨rfl, rfl⟩ : o1 = o ∧ x1 = x := by simpa using h
    have e0 : L k = false := h0
    have e1 : L' k = true := h1
    unfold stL
    rw [e0, e1]
    simp only [Bool.false_eq_true, if_false, if_true]
    rw [stL_congr (L := L') (L' := L) fun j _ => he _ (by omega)]
    exact stL_push fun j o2 x2 hj hL => ha (j + 1) o2 x2 (by omega) (by simpa using hj) (by rw [← hL]; congr 1; omega)
  | (o1, x1) :: zs, i + 1, L, L', k, s, h, h0, h1, he, ha => by
    unfold stL
    rw [he k (by omega)]
    exact stL_insert (i := i) (by simpa using h) (by rw [← h0]; congr 1; omega) (by rw [← h1]; congr 1; omega) (fun j hj => he j (by omega))
      fun j o2 x2 hj hz hL => ha (j + 1) o2 x2 (by omega) (by simpa using hz) (by rw [← hL]; congr 1; omega)

theorem stL_tm {t : Nat} : ∀ {zs : List (Oper × Option Res)} {L L' : Nat → Bool} {k : Nat} {s s' : AS}, (∀ j o x, zs[j]? = some (o, x) → L (k + j) ≠ L' (k + j) → o.dst ≠ some t) → get s.tm t = get s'.tm t →
    get (stL zs L k s).tm t = get (stL zs L' k s').tm t
  | [], _, _, _, _, _, _, h => h
  | (o, x) :: zs, L, L', k, s, s', hn, h => by
    unfold stL
    refine stL_tm (fun j o2 x2 hj hL => hn (j + 1) o2 x2 (by simpa using hj) (by rwa [show k + (j + 1) = k + 1 + j by omega])) ?_
    have h0 := hn 0 o x rfl
    by_cases h1 : L k = true <;> by_cases h2 : L' k = true
    · rw [if_pos h1, if_pos h2, stp_tm, stp_tm, h]
    · rw [if_pos h1, if_neg h2, stp_tm, if_neg (h0 (by simp only [Nat.add_zero]; rw [h1]; exact fun e => h2 e.symm)), h]
    · rw [if_neg h1, if_pos h2, stp_tm, if_neg (h0 (by simp only [Nat.add_zero]; rw [h2]; exact h1)), h]
    · rw [if_neg h1, if_neg h2, h]

theorem stL_mem {t : Nat} : ∀ {zs : List (Oper × Option Res)} {L L' : Nat → Bool} {k : Nat} {s s' : AS}, (∀ j o x, zs[j]? = some (o, x) → L (k + j) ≠ L' (k + j) → get (rmOf x) t = none) → get s.mem t = get s'.mem t →
    get (stL zs L k s).mem t = get (stL zs L' k s').mem t
  | [], _, _, _, _, _, _, h => h
  | (o, x) :: zs, L, L', k, s, s', hn, h => by
    unfold stL
    refine stL_mem (fun j o2 x2 hj hL => hn (j + 1) o2 x2 (by simpa using hj) (by rwa [show k + (j + 1) = k + 1 + j by omega])) ?_
    have h0 := hn 0 o x rfl
    by_cases h1 : L k = true <;> by_cases h2 : L' k = true
    · rw [if_pos h1, if_pos h2, stp_mem, stp_mem, h]
    · rw [if_pos h1, if_neg h2, stp_mem, h0 (by simp only [Nat.add_zero]; rw [h1]; exact fun e => h2 e.symm), h]
    · rw [if_neg h1, if_pos h2, stp_mem, h0 (by simp only [Nat.add_zero]; rw [h2]; exact h1), h]
    · rw [if_neg h1, if_neg h2, h]

theorem stL_none : ∀ {zs : List (Oper × Option Res)} {L : Nat → Bool} {k : Nat} {s : AS}, (∀ j, k ≤ j → L j = false) → stL zs L k s = s
  | [], _, _, _, _ => rfl
  | (o, x) :: zs, L, k, s, h => by
    unfold stL
    rw [if_neg (by rw [h k (Nat.le_refl _)]; simp)]
    exact stL_none fun j hj => h j (by omega)

/-- Behind the first i operations. -/
theorem stL_succ {o : Oper} {x : Option Res} : ∀ {zs : List (Oper × Option Res)} {i k : Nat} {s : AS}, zs[i]? = some (o, x) →
    stL zs (fun q => decide (q < k + i + 1)) k s = stp o x (stL zs (fun q => decide (q < k + i)) k s)
  | [], i, _, _, h => by simp at h
  | (o1, x1) :: zs, 0, k, s, h => by
    obtain ⟨rfl, rfl⟩ : o1 = o ∧ x1 = x := by simpa using h
    unfold stL
    rw [if_pos (by simp), if_neg (by simp), stL_none (by intro j hj; simp only [decide_eq_false_iff_not]; omega), stL_none (by intro j hj; simp only [decide_eq_false_iff_not]; omega)]
  | (o1, x1) :: zs, i + 1, k, s, h => by
    unfold stL
    rw [if_pos (by simp; omega), if_pos (by simp)]
    have := stL_succ (k := k + 1) (s := stp o1 x1 s) (show zs[i]? = some (o, x) by simpa using h)
    rw [show k + (i + 1) + 1 = k + 1 + i + 1 by omega, show k + (i + 1) = k + 1 + i by omega]
    exact this

theorem trace_at {P : Program} {R : CallRel} {ops : Array Oper} : ∀ {l : List Oper} {k : Nat} {s : AS} {xs : List (Option Res)} {s' : AS}, Trace P R ops l s xs s' →
    (l.zip xs).map (·.1) = l ∧ (l.zip xs).map (·.2) = xs ∧ (∀ j o x, (l.zip xs)[j]? = some (o, x) → StepC P R ops o (stL (l.zip xs) (fun q => decide (q < k + j)) k s) x) ∧ stL (l.zip xs) (fun q => decide (q < k + l.length)) k s = s'
  | [], k, s, xs, s', h => by
    obtain ⟨rfl, rfl⟩ := h
    exact ⟨rfl, rfl, by simp, rfl⟩
  | o :: rest, k, s, xs, s', h => by
    obtain ⟨x, xs', rfl, hs, ht⟩ := h
    obtain ⟨h1, h2, h3, h4⟩ := trace_at (k := k + 1) ht
    refine ⟨by simp [h1], by simp [h2], fun j o2 x2 hj => ?_, ?_⟩
    · cases j with
      | zero =>
        obtain ⟨rfl, rfl⟩ : o = o2 ∧ x = x2 := by simpa using hj
        rw [stL_none (by simp)]
        exact hs
      | succ j =>
        have := h3 j o2 x2 (by simpa using hj)
        simp only [List.zip_cons_cons, stL]
        rw [if_pos (by simp), show k + (j + 1) = k + 1 + j by omega]
        exact this
    · simp only [List.zip_cons_cons, stL, List.length_cons]
      rw [if_pos (by simp), stL_congr (L' := fun q => decide (q < k + 1 + rest.length)) (fun j _ => by simp only [decide_eq_decide]; omega)]
      exact h4

theorem opr_agree {s s' : AS} {x : Operand} (h : ∀ t, x = .tmp t → get s'.tm t = get s.tm t) : opr s' x = opr s x := by
  cases x with
  | tmp t => exact h t rfl
  | _ => rfl

/-- The same operation with the same effect where what it looks at is the same. -/
theorem stepC_foot {P : Program} {R : CallRel} {ops : Array Oper} {o : Oper} {s s' : AS} {x : Option Res} (h : StepC P R ops o s x) (hn : s'.nx = s.nx) (ht : ∀ t, t ∈ o.looksAt ops → get s'.tm t = get s.tm t)
    (hm : ∀ id, id ∈ (logOf x).1 → get s'.mem id = get s.mem id) : ∃ x', StepC P R ops o s' x' ∧ (∀ s, stp o x' s = stp o x s) ∧ ∀ s, nxOf s x' = nxOf s x := by
  have ho : ∀ y, y ∈ o.op.operands.toList → opr s' y = opr s y := fun y hy => opr_agree fun t e => ht t (by
    subst e
    unfold Oper.looksAt
    exact List.mem_append.2 (.inl (List.mem_filterMap.2 ⟨_, hy, rfl⟩)))
  have hgd : ∀ j want, o.guard = some (j, want) → guardVal ops s' j = guardVal ops s j := by
    intro j want hg
    unfold guardVal
    cases hd : (ops[j]?).bind (·.dst) with
    | none => rfl
    | some d => simp only; rw [ht d (by unfold Oper.looksAt; rw [hg]; simp [hd])]
  unfold StepC at h
  split at h
  · rename_i r hg
    obtain ⟨rd, hy⟩ := yields_foot h hn ho hm
    exact ⟨some { r with rd := rd }, by unfold StepC; rw [hg]; exact hy, fun _ => rfl, fun _ => rfl⟩
  · rename_i j want r hg
    obtain ⟨rd, hy⟩ := yields_foot h.2 hn ho hm
    exact ⟨some { r with rd := rd }, by unfold StepC; rw [hg]; exact ⟨(hgd j want hg).trans h.1, hy⟩, fun _ => rfl, fun _ => rfl⟩
  · rename_i j want hg
    obtain ⟨b, hb, hne⟩ := h
    exact ⟨none, by unfold StepC; rw [hg]; exact ⟨b, (hgd j want hg).trans hb, hne⟩, fun _ => rfl, fun _ => rfl⟩
  · exact h.elim

theorem GoodE.same {E : Env} {n : Nat} {w0 : World} {okb : Nat → Prop} {s s' : AS} {a : Act} (h : GoodE E n w0 okb s a) (hs : Same s s') : GoodE E n w0 okb s' a := by
  obtain ⟨hF, hD, hn, hT, hM⟩ := h
  exact ⟨hF, hD, hn, fun t v ht => hT t v ((hs.1 t).trans ht), ⟨fun id arr hg => hM.arr id arr ((hs.2 id).trans hg), fun id id' arr arr' b o z o' z' h1 h2 => hM.far id id' arr arr' b o z o' z' ((hs.2 id).trans h1) ((hs.2 id').trans h2)⟩⟩
end Go.Ab
end

section
namespace Go.Ab
open Go.RowKit (Below)

/-! What 'before' says. -/
def befOne (acc : Array Nat) (o : Oper) : Nat := o.after.foldl (fun s e => if Region.binds .any e then s ||| 2 ^ e.on ||| acc.getD e.on 0 else s) 0

theorem fold_bit {acc : Array Nat} {i : Nat} : ∀ {l : List Edge} {s : Nat}, (l.foldl (fun s e => if Region.binds .any e then s ||| 2 ^ e.on ||| acc.getD e.on 0 else s) s).testBit i = true →
    s.testBit i = true ∨ ∃ e, e ∈ l ∧ Region.binds .any e = true ∧ (e.on = i ∨ (acc.getD e.on 0).testBit i = true)
  | [], s, h => .inl h
  | e :: l, s, h => by
    rw [List.foldl_cons] at h
    rcases fold_bit h with h | ⟨e', h1, h2⟩
    · split at h
      · rename_i hb
        rw [Nat.testBit_or, Nat.testBit_or, Nat.testBit_two_pow] at h
        simp only [Bool.or_eq_true, decide_eq_true_eq] at h
        rcases h with (h | h) | h
        · exact .inl h
        · exact .inr ⟨e, by simp, hb, .inl h⟩
        · exact .inr ⟨e, by simp, hb, .inr h⟩
      · exact .inl h
    · exact .inr ⟨e', by simp [h1], h2⟩

theorem bef_fold : ∀ {l : List Oper} {acc : Array Nat}, (l.foldl (fun acc o => acc.push (befOne acc o)) acc).size = acc.size + l.length ∧ (∀ k, k < acc.size → (l.foldl (fun acc o => acc.push (befOne acc o)) acc)[k]? = acc[k]?) ∧
    ∀ j o, l[j]? = some o → ∃ acc' : Array Nat, acc'.size = acc.size + j ∧ (∀ k, k < acc.size + j → (l.foldl (fun acc o => acc.push (befOne acc o)) acc)[k]? = acc'[k]?) ∧ (l.foldl (fun acc o => acc.push (befOne acc o)) acc)[acc.size + j]? = some (befOne acc' o)
  | [], acc => ⟨rfl, fun _ _ => rfl, by simp⟩
  | o :: l, acc => by
    obtain ⟨h1, h2, h3⟩ := bef_fold (l := l) (acc := acc.push (befOne acc o))
    simp only [List.foldl_cons]
    refine ⟨by rw [h1]; simp; omega, fun k hk => ?_, fun j o2 hj => ?_⟩
    · rw [h2 k (by simp; omega), Array.getElem?_push, if_neg (by omega)]
    · cases j with
      | zero =>
        obtain rfl : o = o2 := by simpa using hj
        exact ⟨acc, rfl, fun k hk => by rw [h2 k (by simp; omega), Array.getElem?_push, if_neg (by omega)], by rw [h2 _ (by simp), Array.getElem?_push, if_pos (by omega)]⟩
      | succ j =>
        obtain ⟨acc', q1, q2, q3⟩ := h3 j o2 (by simpa using hj)
        rw [Array.size_push] at q1 q2 q3
        exact ⟨acc', by omega, fun k hk => q2 k (by omega), by rw [← q3]; congr 1; omega⟩

theorem before_edge {ops : Array Oper} {j i : Nat} {o : Oper} (ho : ops[j]? = some o) (h : ((Region.before ops).getD j 0).testBit i = true) :
    ∃ e, e ∈ o.after ∧ Region.binds .any e = true ∧ (e.on = i ∨ (e.on < j ∧ ((Region.before ops).getD e.on 0).testBit i = true)) := by
  have e0 : Region.before ops = ops.toList.foldl (fun acc o => acc.push (befOne acc o)) #[] := by
    unfold Region.before befOne
    rw [← Array.foldl_toList]
  obtain ⟨_, _, h3⟩ := bef_fold (l := ops.toList) (acc := #[])
  obtain ⟨acc', q1, q2, q3⟩ := h3 j o (by simpa using ho)
  simp only [List.size_toArray, List.length_nil, Nat.zero_add] at q1 q2 q3
  rw [← e0] at q2 q3
  rw [Array.getD_eq_getD_getElem?, q3] at h
  simp only [Option.getD_some, befOne] at h
  rw [← Array.foldl_toList] at h
  rcases fold_bit h with h | ⟨e, he, hb, h⟩
  · simp at h
  · refine ⟨e, by simpa using he, hb, h.imp id fun h => ?_⟩
    have hlt : e.on < j := by
      apply Classical.byContradiction
      intro hc
      rw [Array.getD_eq_getD_getElem?, Array.getElem?_eq_none (by omega)] at h
      simp at h
    refine ⟨hlt, ?_⟩
    rw [Array.getD_eq_getD_getElem?, q2 _ hlt, ← Array.getD_eq_getD_getElem?]
    exact h

def Closed (ops : Array Oper) (L : Nat → Bool) : Prop := ∀ j o, ops[j]? = some o → L j = true → ∀ e, e ∈ o.after → Region.binds .any e = true → L e.on = true

theorem closed_before {ops : Array Oper} {L : Nat → Bool} (hc : Closed ops L) : ∀ (j i : Nat) (o : Oper), ops[j]? = some o → (∀ e, e ∈ o.after → Region.binds .any e = true → L e.on = true) → ((Region.before ops).getD j 0).testBit i = true → L i = true := by
  intro j
  induction j using Nat.strongRecOn with
  | _ j ih =>
    intro i o ho hL h
    obtain ⟨e, he, hb, rfl | ⟨hlt, h⟩⟩ := before_edge ho h
    · exact hL e he hb
    · obtain ⟨o2, ho2⟩ : ∃ o2, ops[e.on]? = some o2 := ⟨_, Array.getElem?_eq_getElem (by have := (Array.getElem?_eq_some_iff.1 ho).1; omega)⟩
      exact ih e.on hlt i o2 ho2 (hc e.on o2 ho2 (hL e he hb)) h

theorem tmpsOk_spec {ops : Array Oper} (h : tmpsOk ops = true) {i j : Nat} {x y : Oper} (hi : ops[i]? = some x) (hj : ops[j]? = some y) (hij : i < j) : ((Region.before ops).getD j 0).testBit i = true ∨ x.apart ops y = true := by
  unfold tmpsOk at h
  simp only [List.all_eq_true] at h
  have := h (x, i) (List.mem_zipIdx_iff_getElem?.2 (by simpa using hi)) (y, j) (List.mem_zipIdx_iff_getElem?.2 (by simpa using hj))
  simpa [hij] using this
theorem noConf_spec {b : Array Nat} {xs : List (Option Res)} (h : noConf b ((xs.map logOf).reverse ++ []) = true) {i j : Nat} {x y : Option Res} (hi : xs[i]? = some x) (hj : xs[j]? = some y) (hij : i < j) : (b.getD j 0).testBit i = true ∨ clash (logOf x) (logOf y) = false := by
  unfold noConf at h
  simp only [List.append_nil, List.reverse_reverse, List.all_eq_true] at h
  have := h (logOf x, i) (List.mem_zipIdx_iff_getElem?.2 (by simp [hi])) (logOf y, j) (List.mem_zipIdx_iff_getElem?.2 (by simp [hj]))
  simpa [hij] using this
theorem ordOk_spec {ops : Array Oper} (h : ordOk ops = true) {j : Nat} {o : Oper} (hj : ops[j]? = some o) {e : Edge} (he : e ∈ o.after) (hb : Region.binds .any e = true) : e.on < j := by
  unfold ordOk at h
  simp only [List.all_eq_true] at h
  have := h (o, j) (List.mem_zipIdx_iff_getElem?.2 (by simpa using hj))
  have := (Array.all_eq_true'.1 this) e he
  simpa [hb] using this

theorem clash_spec {x y : List Nat × List Nat} (h : clash x y = false) : (∀ i, i ∈ x.2 → i ∉ y.1 ∧ i ∉ y.2) ∧ ∀ i, i ∈ y.2 → i ∉ x.1 := by
  unfold clash at h
  simp only [Bool.or_eq_false_iff, List.any_eq_false, Bool.or_eq_true, List.contains_iff_mem, not_or] at h
  exact ⟨fun i hi => h.1 i hi, fun i hi => h.2 i hi⟩

theorem rm_none {x : Option Res} {i : Nat} (h : i ∉ (logOf x).2) : get (rmOf x) i = none := by
  cases hg : get (rmOf x) i with
  | none => rfl
  | some a =>
    refine absurd (get_mem_keys hg) ?_
    cases x with
    | none => simp [rmOf]
    | some r => exact h
theorem rm_some {x : Option Res} {i : Nat} {a : Arr} (h : get (rmOf x) i = some a) : i ∈ (logOf x).2 := by
  have := get_mem_keys h
  cases x with
  | none => exact this
  | some r => exact this

theorem count_set {l : List Bool} {i : Nat} (h : l[i]? = some false) : (l.set i true).count false + 1 = l.count false := by
  induction l generalizing i with
  | nil => simp at h
  | cons b l ih =>
    cases i with
    | zero =>
      obtain rfl : b = false := by simpa using h
      simp
    | succ i =>
      have := ih (i := i) (by simpa using h)
      simp only [List.set_cons_succ, List.count_cons]
      omega
end Go.Ab
end
