/- The abstract interpreter: states of a region whose operations may come in any order. -/
import Derived.Test.YtchibfkcphbmjaaAb25
set_option linter.unusedVariables false
set_option linter.unusedSimpArgs false
set_option linter.unusedSectionVars false

namespace Go.Ab
open Go.RowKit (Below)

def stL : List (Oper × Option Res) → (Nat → Bool) → Nat → AS → AS
  | [], _, _, s => s
  | (o, x) :: zs, L, k, s => stL zs L (k + 1) (if L k = true then stp o x s else s)

def Same (s s' : AS) : Prop := (∀ t, get s.tm t = get s'.tm t) ∧ ∀ i, get s.mem i = get s'.mem i
theorem Same.refl (s : AS) : Same s s := ⟨fun _ => rfl, fun _ => rfl⟩
theorem Same.trans {a b c : AS} (h : Same a b) (k : Same b c) : Same a c := ⟨fun t => (h.1 t).trans (k.1 t), fun i => (h.2 i).trans (k.2 i)⟩
theorem Same.symm {a b : AS} (h : Same a b) : Same b a := ⟨fun t => (h.1 t).symm, fun i => (h.2 i).symm⟩

def rvOf : Option Res → AV
  | some r => r.v
  | none => .sc undef
def rmOf : Option Res → List (Nat × Arr)
  | some r => r.d
  | none => []

theorem stp_tm (o : Oper) (x : Option Res) (s : AS) (t : Nat) : get (stp o x s).tm t = if o.dst = some t then some (rvOf x) else get s.tm t := by
  cases hd : o.dst with
  | none => cases x <;> simp [stp, AS.put, AS.junk, hd]
  | some d => cases x <;> simp [stp, AS.put, AS.junk, hd, get_cons, rvOf]
theorem stp_mem (o : Oper) (x : Option Res) (s : AS) (i : Nat) : get (stp o x s).mem i = match get (rmOf x) i with | some v => some v | none => get s.mem i := by
  cases x with
  | none => rfl
  | some r =>
    show get (r.d ++ s.mem) i = _
    rw [get_append]
    show _ = match get r.d i with | some v => some v | none => get s.mem i
    cases get r.d i <;> rfl

theorem stp_same {o : Oper} {x : Option Res} {s s' : AS} (h : Same s s') : Same (stp o x s) (stp o x s') :=
  ⟨fun t => by rw [stp_tm, stp_tm, h.1 t], fun i => by rw [stp_mem, stp_mem, h.2 i]⟩
theorem stL_same : ∀ {zs : List (Oper × Option Res)} {L : Nat → Bool} {k : Nat} {s s' : AS}, Same s s' → Same (stL zs L k s) (stL zs L k s')
  | [], _, _, _, _, h => h
  | (o, x) :: zs, L, k, s, s', h => by
    unfold stL
    split
    · exact stL_same (stp_same h)
    · exact stL_same h

def Aparted (o o2 : Oper) (x x2 : Option Res) : Prop := (∀ d, o.dst = some d → o2.dst ≠ some d) ∧ ∀ i v, get (rmOf x) i = some v → get (rmOf x2) i = none

theorem stp_comm {o o2 : Oper} {x x2 : Option Res} {s : AS} (h : Aparted o o2 x x2) : Same (stp o2 x2 (stp o x s)) (stp o x (stp o2 x2 s)) := by
  refine ⟨fun t => ?_, fun i => ?_⟩
  · rw [stp_tm, stp_tm, stp_tm, stp_tm]
    by_cases h1 : o.dst = some t
    · simp [h1, h.1 t h1]
    · rw [if_neg h1, if_neg h1]
  · rw [stp_mem, stp_mem, stp_mem, stp_mem]
    cases h1 : get (rmOf x) i with
    | none => rfl
    | some v => rw [h.2 i v h1]

theorem stL_push {o : Oper} {x : Option Res} : ∀ {zs : List (Oper × Option Res)} {L : Nat → Bool} {k : Nat} {s : AS}, (∀ j o2 x2, zs[j]? = some (o2, x2) → L (k + j) = true → Aparted o o2 x x2) →
    Same (stL zs L k (stp o x s)) (stp o x (stL zs L k s))
  | [], _, _, s, _ => .refl _
  | (o2, x2) :: zs, L, k, s, h => by
    have hr : ∀ j o3 x3, zs[j]? = some (o3, x3) → L (k + 1 + j) = true → Aparted o o3 x x3 := fun j o3 x3 hj hL => h (j + 1) o3 x3 (by simpa using hj) (by rw [← hL]; congr 1; omega)
    unfold stL
    split
    · rename_i hL
      exact (stL_same (stp_comm (h 0 o2 x2 rfl hL))).trans (stL_push hr)
    · exact stL_push hr

theorem stL_congr : ∀ {zs : List (Oper × Option Res)} {L L' : Nat → Bool} {k : Nat} {s : AS}, (∀ j, j < zs.length → L (k + j) = L' (k + j)) → stL zs L k s = stL zs L' k s
  | [], _, _, _, _, _ => rfl
  | (o, x) :: zs, L, L', k, s, h => by
    unfold stL
    rw [show L k = L' k from h 0 (by simp)]
    exact stL_congr fun j hj => by
      have := h (j + 1) (by simpa using hj)
      rwa [show k + (j + 1) = k + 1 + j by omega] at this

theorem stL_insert {o : Oper} {x : Option Res} : ∀ {zs : List (Oper × Option Res)} {i : Nat} {L L' : Nat → Bool} {k : Nat} {s : AS}, zs[i]? = some (o, x) → L (k + i) = false → L' (k + i) = true → (∀ j, j ≠ k + i → L' j = L j) →
    (∀ j o2 x2, i < j → zs[j]? = some (o2, x2) → L (k + j) = true → Aparted o o2 x x2) → Same (stL zs L' k s) (stp o x (stL zs L k s))
  | [], i, _, _, _, _, h, _, _, _, _ => by simp at h
  | (o1, x1) :: zs, 0, L, L', k, s, h, h0, h1, he, ha => by
    obtain ⟨rfl, rfl⟩ : o1 = o ∧ x1 = x := by simpa using h
    have e0 : L k = false := h0
    have e1 : L' k = true := h1
    unfold stL
    rw [e0, e1]
    simp only [Bool.false_eq_true, if_false, if_true]
    rw [stL_congr (L := L') (L' := L) fun j _ => he _ (by omega)]
    exact stL_push fun j o2 x2 hj hL => ha (j + 1) o2 x2 (by omega) (by simpa using hj) (by rw [← hL]; congr 1; omega)
  | (o1, x1) :: zs, i + 1, L, L', k, s, h, h0, h1, he, ha => by
    unfold stL
    rw [he k (by omega)]
    exact stL_insert (i := i) (by simpa using h) (by rw [← h0]; congr 1; omega) (by rw [← h1]; congr 1; omega) (fun j hj => he j (by omega))
      fun j o2 x2 hj hz hL => ha (j + 1) o2 x2 (by omega) (by simpa using hz) (by rw [← hL]; congr 1; omega)

theorem stL_tm {t : Nat} : ∀ {zs : List (Oper × Option Res)} {L L' : Nat → Bool} {k : Nat} {s s' : AS}, (∀ j o x, zs[j]? = some (o, x) → L (k + j) ≠ L' (k + j) → o.dst ≠ some t) → get s.tm t = get s'.tm t →
    get (stL zs L k s).tm t = get (stL zs L' k s').tm t
  | [], _, _, _, _, _, _, h => h
  | (o, x) :: zs, L, L', k, s, s', hn, h => by
    unfold stL
    refine stL_tm (fun j o2 x2 hj hL => hn (j + 1) o2 x2 (by simpa using hj) (by rwa [show k + (j + 1) = k + 1 + j by omega])) ?_
    have h0 := hn 0 o x rfl
    by_cases h1 : L k = true <;> by_cases h2 : L' k = true
    · rw [if_pos h1, if_pos h2, stp_tm, stp_tm, h]
    · rw [if_pos h1, if_neg h2, stp_tm, if_neg (h0 (by simp only [Nat.add_zero]; rw [h1]; exact fun e => h2 e.symm)), h]
    · rw [if_neg h1, if_pos h2, stp_tm, if_neg (h0 (by simp only [Nat.add_zero]; rw [h2]; exact h1)), h]
    · rw [if_neg h1, if_neg h2, h]

theorem stL_mem {t : Nat} : ∀ {zs : List (Oper × Option Res)} {L L' : Nat → Bool} {k : Nat} {s s' : AS}, (∀ j o x, zs[j]? = some (o, x) → L (k + j) ≠ L' (k + j) → get (rmOf x) t = none) → get s.mem t = get s'.mem t →
    get (stL zs L k s).mem t = get (stL zs L' k s').mem t
  | [], _, _, _, _, _, _, h => h
  | (o, x) :: zs, L, L', k, s, s', hn, h => by
    unfold stL
    refine stL_mem (fun j o2 x2 hj hL => hn (j + 1) o2 x2 (by simpa using hj) (by rwa [show k + (j + 1) = k + 1 + j by omega])) ?_
    have h0 := hn 0 o x rfl
    by_cases h1 : L k = true <;> by_cases h2 : L' k = true
    · rw [if_pos h1, if_pos h2, stp_mem, stp_mem, h]
    · rw [if_pos h1, if_neg h2, stp_mem, h0 (by simp only [Nat.add_zero]; rw [h1]; exact fun e => h2 e.symm), h]
    · rw [if_neg h1, if_pos h2, stp_mem, h0 (by simp only [Nat.add_zero]; rw [h2]; exact h1), h]
    · rw [if_neg h1, if_neg h2, h]

theorem stL_none : ∀ {zs : List (Oper × Option Res)} {L : Nat → Bool} {k : Nat} {s : AS}, (∀ j, k ≤ j → L j = false) → stL zs L k s = s
  | [], _, _, _, _ => rfl
  | (o, x) :: zs, L, k, s, h => by
    unfold stL
    rw [if_neg (by rw [h k (Nat.le_refl _)]; simp)]
    exact stL_none fun j hj => h j (by omega)

/-- Behind the first i operations. -/
theorem stL_succ {o : Oper} {x : Option Res} : ∀ {zs : List (Oper × Option Res)} {i k : Nat} {s : AS}, zs[i]? = some (o, x) →
    stL zs (fun q => decide (q < k + i + 1)) k s = stp o x (stL zs (fun q => decide (q < k + i)) k s)
  | [], i, _, _, h => by simp at h
  | (o1, x1) :: zs, 0, k, s, h => by
    obtain ⟨rfl, rfl⟩ : o1 = o ∧ x1 = x := by simpa using h
    unfold stL
    rw [if_pos (by simp), if_neg (by simp), stL_none (by intro j hj; simp only [decide_eq_false_iff_not]; omega), stL_none (by intro j hj; simp only [decide_eq_false_iff_not]; omega)]
  | (o1, x1) :: zs, i + 1, k, s, h => by
    unfold stL
    rw [if_pos (by simp; omega), if_pos (by simp)]
    have := stL_succ (k := k + 1) (s := stp o1 x1 s) (show zs[i]? = some (o, x) by simpa using h)
    rw [show k + (i + 1) + 1 = k + 1 + i + 1 by omega, show k + (i + 1) = k + 1 + i by omega]
    exact this

theorem trace_at {P : Program} {R : CallRel} {ops : Array Oper} : ∀ {l : List Oper} {k : Nat} {s : AS} {xs : List (Option Res)} {s' : AS}, Trace P R ops l s xs s' →
    (l.zip xs).map (·.1) = l ∧ (l.zip xs).map (·.2) = xs ∧ (∀ j o x, (l.zip xs)[j]? = some (o, x) → StepC P R ops o (stL (l.zip xs) (fun q => decide (q < k + j)) k s) x) ∧ stL (l.zip xs) (fun q => decide (q < k + l.length)) k s = s'
  | [], k, s, xs, s', h => by
    obtain ⟨rfl, rfl⟩ := h
    exact ⟨rfl, rfl, by simp, rfl⟩
  | o :: rest, k, s, xs, s', h => by
    obtain ⟨x, xs', rfl, hs, ht⟩ := h
    obtain ⟨h1, h2, h3, h4⟩ := trace_at (k := k + 1) ht
    refine ⟨by simp [h1], by simp [h2], fun j o2 x2 hj => ?_, ?_⟩
    · cases j with
      | zero =>
        obtain ⟨rfl, rfl⟩ : o = o2 ∧ x = x2 := by simpa using hj
        rw [stL_none (by simp)]
        exact hs
      | succ j =>
        have := h3 j o2 x2 (by simpa using hj)
        simp only [List.zip_cons_cons, stL]
        rw [if_pos (by simp), show k + (j + 1) = k + 1 + j by omega]
        exact this
    · simp only [List.zip_cons_cons, stL, List.length_cons]
      rw [if_pos (by simp), stL_congr (L' := fun q => decide (q < k + 1 + rest.length)) (fun j _ => by simp only [decide_eq_decide]; omega)]
      exact h4

theorem opr_agree {s s' : AS} {x : Operand} (h : ∀ t, x = .tmp t → get s'.tm t = get s.tm t) : opr s' x = opr s x := by
  cases x with
  | tmp t => exact h t rfl
  | _ => rfl

/-- The same operation with the same effect where what it looks at is the same. -/
theorem stepC_foot {P : Program} {R : CallRel} {ops : Array Oper} {o : Oper} {s s' : AS} {x : Option Res} (h : StepC P R ops o s x) (hn : s'.nx = s.nx) (ht : ∀ t, t ∈ o.looksAt ops → get s'.tm t = get s.tm t)
    (hm : ∀ id, id ∈ (logOf x).1 → get s'.mem id = get s.mem id) : ∃ x', StepC P R ops o s' x' ∧ (∀ s, stp o x' s = stp o x s) ∧ ∀ s, nxOf s x' = nxOf s x := by
  have ho : ∀ y, y ∈ o.op.operands.toList → opr s' y = opr s y := fun y hy => opr_agree fun t e => ht t (by
    subst e
    unfold Oper.looksAt
    exact List.mem_append.2 (.inl (List.mem_filterMap.2 ⟨_, hy, rfl⟩)))
  have hgd : ∀ j want, o.guard = some (j, want) → guardVal ops s' j = guardVal ops s j := by
    intro j want hg
    unfold guardVal
    cases hd : (ops[j]?).bind (·.dst) with
    | none => rfl
    | some d => simp only; rw [ht d (by unfold Oper.looksAt; rw [hg]; simp [hd])]
  unfold StepC at h
  split at h
  · rename_i r hg
    obtain ⟨rd, hy⟩ := yields_foot h hn ho hm
    exact ⟨some { r with rd := rd }, by unfold StepC; rw [hg]; exact hy, fun _ => rfl, fun _ => rfl⟩
  · rename_i j want r hg
    obtain ⟨rd, hy⟩ := yields_foot h.2 hn ho hm
    exact ⟨some { r with rd := rd }, by unfold StepC; rw [hg]; exact ⟨(hgd j want hg).trans h.1, hy⟩, fun _ => rfl, fun _ => rfl⟩
  · rename_i j want hg
    obtain ⟨b, hb, hne⟩ := h
    exact ⟨none, by unfold StepC; rw [hg]; exact ⟨b, (hgd j want hg).trans hb, hne⟩, fun _ => rfl, fun _ => rfl⟩
  · exact h.elim

theorem GoodE.same {E : Env} {n : Nat} {w0 : World} {okb : Nat → Prop} {s s' : AS} {a : Act} (h : GoodE E n w0 okb s a) (hs : Same s s') : GoodE E n w0 okb s' a := by
  obtain ⟨hF, hD, hn, hT, hM⟩ := h
  exact ⟨hF, hD, hn, fun t v ht => hT t v ((hs.1 t).trans ht), ⟨fun id arr hg => hM.arr id arr ((hs.2 id).trans hg), fun id id' arr arr' b o z o' z' h1 h2 => hM.far id id' arr arr' b o z o' z' ((hs.2 id).trans h1) ((hs.2 id').trans h2)⟩⟩
end Go.Ab
