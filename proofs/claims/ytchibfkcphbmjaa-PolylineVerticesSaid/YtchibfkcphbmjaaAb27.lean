/- The abstract interpreter: a region whose operations may come in any order. -/
import Derived.Test.YtchibfkcphbmjaaAb26
set_option linter.unusedVariables false
set_option linter.unusedSimpArgs false
set_option linter.unusedSectionVars false

namespace Go.Ab
open Go.RowKit (Below)

/-! What 'before' says. -/
def befOne (acc : Array Nat) (o : Oper) : Nat := o.after.foldl (fun s e => if Region.binds .any e then s ||| 2 ^ e.on ||| acc.getD e.on 0 else s) 0

theorem fold_bit {acc : Array Nat} {i : Nat} : ∀ {l : List Edge} {s : Nat}, (l.foldl (fun s e => if Region.binds .any e then s ||| 2 ^ e.on ||| acc.getD e.on 0 else s) s).testBit i = true →
    s.testBit i = true ∨ ∃ e, e ∈ l ∧ Region.binds .any e = true ∧ (e.on = i ∨ (acc.getD e.on 0).testBit i = true)
  | [], s, h => .inl h
  | e :: l, s, h => by
    rw [List.foldl_cons] at h
    rcases fold_bit h with h | ⟨e', h1, h2⟩
    · split at h
      · rename_i hb
        rw [Nat.testBit_or, Nat.testBit_or, Nat.testBit_two_pow] at h
        simp only [Bool.or_eq_true, decide_eq_true_eq] at h
        rcases h with (h | h) | h
        · exact .inl h
        · exact .inr ⟨e, by simp, hb, .inl h⟩
        · exact .inr ⟨e, by simp, hb, .inr h⟩
      · exact .inl h
    · exact .inr ⟨e', by simp [h1], h2⟩

theorem bef_fold : ∀ {l : List Oper} {acc : Array Nat}, (l.foldl (fun acc o => acc.push (befOne acc o)) acc).size = acc.size + l.length ∧ (∀ k, k < acc.size → (l.foldl (fun acc o => acc.push (befOne acc o)) acc)[k]? = acc[k]?) ∧
    ∀ j o, l[j]? = some o → ∃ acc' : Array Nat, acc'.size = acc.size + j ∧ (∀ k, k < acc.size + j → (l.foldl (fun acc o => acc.push (befOne acc o)) acc)[k]? = acc'[k]?) ∧ (l.foldl (fun acc o => acc.push (befOne acc o)) acc)[acc.size + j]? = some (befOne acc' o)
  | [], acc => ⟨rfl, fun _ _ => rfl, by simp⟩
  | o :: l, acc => by
    obtain ⟨h1, h2, h3⟩ := bef_fold (l := l) (acc := acc.push (befOne acc o))
    simp only [List.foldl_cons]
    refine ⟨by rw [h1]; simp; omega, fun k hk => ?_, fun j o2 hj => ?_⟩
    · rw [h2 k (by simp; omega), Array.getElem?_push, if_neg (by omega)]
    · cases j with
      | zero =>
        obtain rfl : o = o2 := by simpa using hj
        exact ⟨acc, rfl, fun k hk => by rw [h2 k (by simp; omega), Array.getElem?_push, if_neg (by omega)], by rw [h2 _ (by simp), Array.getElem?_push, if_pos (by omega)]⟩
      | succ j =>
        obtain ⟨acc', q1, q2, q3⟩ := h3 j o2 (by simpa using hj)
        rw [Array.size_push] at q1 q2 q3
        exact ⟨acc', by omega, fun k hk => q2 k (by omega), by rw [← q3]; congr 1; omega⟩

theorem before_edge {ops : Array Oper} {j i : Nat} {o : Oper} (ho : ops[j]? = some o) (h : ((Region.before ops).getD j 0).testBit i = true) :
    ∃ e, e ∈ o.after ∧ Region.binds .any e = true ∧ (e.on = i ∨ (e.on < j ∧ ((Region.before ops).getD e.on 0).testBit i = true)) := by
  have e0 : Region.before ops = ops.toList.foldl (fun acc o => acc.push (befOne acc o)) #[] := by
    unfold Region.before befOne
    rw [← Array.foldl_toList]
  obtain ⟨_, _, h3⟩ := bef_fold (l := ops.toList) (acc := #[])
  obtain ⟨acc', q1, q2, q3⟩ := h3 j o (by simpa using ho)
  simp only [List.size_toArray, List.length_nil, Nat.zero_add] at q1 q2 q3
  rw [← e0] at q2 q3
  rw [Array.getD_eq_getD_getElem?, q3] at h
  simp only [Option.getD_some, befOne] at h
  rw [← Array.foldl_toList] at h
  rcases fold_bit h with h | ⟨e, he, hb, h⟩
  · simp at h
  · refine ⟨e, by simpa using he, hb, h.imp id fun h => ?_⟩
    have hlt : e.on < j := by
      apply Classical.byContradiction
      intro hc
      rw [Array.getD_eq_getD_getElem?, Array.getElem?_eq_none (by omega)] at h
      simp at h
    refine ⟨hlt, ?_⟩
    rw [Array.getD_eq_getD_getElem?, q2 _ hlt, ← Array.getD_eq_getD_getElem?]
    exact h

def Closed (ops : Array Oper) (L : Nat → Bool) : Prop := ∀ j o, ops[j]? = some o → L j = true → ∀ e, e ∈ o.after → Region.binds .any e = true → L e.on = true

theorem closed_before {ops : Array Oper} {L : Nat → Bool} (hc : Closed ops L) : ∀ (j i : Nat) (o : Oper), ops[j]? = some o → (∀ e, e ∈ o.after → Region.binds .any e = true → L e.on = true) → ((Region.before ops).getD j 0).testBit i = true → L i = true := by
  intro j
  induction j using Nat.strongRecOn with
  | _ j ih =>
    intro i o ho hL h
    obtain ⟨e, he, hb, rfl | ⟨hlt, h⟩⟩ := before_edge ho h
    · exact hL e he hb
    · obtain ⟨o2, ho2⟩ : ∃ o2, ops[e.on]? = some o2 := ⟨_, Array.getElem?_eq_getElem (by have := (Array.getElem?_eq_some_iff.1 ho).1; omega)⟩
      exact ih e.on hlt i o2 ho2 (hc e.on o2 ho2 (hL e he hb)) h

theorem tmpsOk_spec {ops : Array Oper} (h : tmpsOk ops = true) {i j : Nat} {x y : Oper} (hi : ops[i]? = some x) (hj : ops[j]? = some y) (hij : i < j) : ((Region.before ops).getD j 0).testBit i = true ∨ x.apart ops y = true := by
  unfold tmpsOk at h
  simp only [List.all_eq_true] at h
  have := h (x, i) (List.mem_zipIdx_iff_getElem?.2 (by simpa using hi)) (y, j) (List.mem_zipIdx_iff_getElem?.2 (by simpa using hj))
  simpa [hij] using this
theorem noConf_spec {b : Array Nat} {xs : List (Option Res)} (h : noConf b ((xs.map logOf).reverse ++ []) = true) {i j : Nat} {x y : Option Res} (hi : xs[i]? = some x) (hj : xs[j]? = some y) (hij : i < j) : (b.getD j 0).testBit i = true ∨ clash (logOf x) (logOf y) = false := by
  unfold noConf at h
  simp only [List.append_nil, List.reverse_reverse, List.all_eq_true] at h
  have := h (logOf x, i) (List.mem_zipIdx_iff_getElem?.2 (by simp [hi])) (logOf y, j) (List.mem_zipIdx_iff_getElem?.2 (by simp [hj]))
  simpa [hij] using this
theorem ordOk_spec {ops : Array Oper} (h : ordOk ops = true) {j : Nat} {o : Oper} (hj : ops[j]? = some o) {e : Edge} (he : e ∈ o.after) (hb : Region.binds .any e = true) : e.on < j := by
  unfold ordOk at h
  simp only [List.all_eq_true] at h
  have := h (o, j) (List.mem_zipIdx_iff_getElem?.2 (by simpa using hj))
  have := (Array.all_eq_true'.1 this) e he
  simpa [hb] using this

theorem clash_spec {x y : List Nat × List Nat} (h : clash x y = false) : (∀ i, i ∈ x.2 → i ∉ y.1 ∧ i ∉ y.2) ∧ ∀ i, i ∈ y.2 → i ∉ x.1 := by
  unfold clash at h
  simp only [Bool.or_eq_false_iff, List.any_eq_false, Bool.or_eq_true, List.contains_iff_mem, not_or] at h
  exact ⟨fun i hi => h.1 i hi, fun i hi => h.2 i hi⟩

theorem rm_none {x : Option Res} {i : Nat} (h : i ∉ (logOf x).2) : get (rmOf x) i = none := by
  cases hg : get (rmOf x) i with
  | none => rfl
  | some a =>
    refine absurd (get_mem_keys hg) ?_
    cases x with
    | none => simp [rmOf]
    | some r => exact h
theorem rm_some {x : Option Res} {i : Nat} {a : Arr} (h : get (rmOf x) i = some a) : i ∈ (logOf x).2 := by
  have := get_mem_keys h
  cases x with
  | none => exact this
  | some r => exact this

theorem count_set {l : List Bool} {i : Nat} (h : l[i]? = some false) : (l.set i true).count false + 1 = l.count false := by
  induction l generalizing i with
  | nil => simp at h
  | cons b l ih =>
    cases i with
    | zero =>
      obtain rfl : b = false := by simpa using h
      simp
    | succ i =>
      have := ih (i := i) (by simpa using h)
      simp only [List.set_cons_succ, List.count_cons]
      omega
end Go.Ab
