/- The abstract interpreter: literals, makes, stores. -/
import Derived.Test.YtchibfkcphbmjaaAb9
import Derived.Laws.Tables
import Derived.Laws.MakeOwn
import Derived.Great.FillDense
set_option linter.unusedVariables false
set_option linter.unusedSimpArgs false
set_option linter.unusedSectionVars false

namespace Go.Ab
open Go.RowKit (Below)

/-- Cells of one cell each, with what they are. -/
def Ones (E : Env) (cs : List AV) (cv : List Value) : Prop := Reps E cs cv ∧ ∀ v, v ∈ cv → v.oneCell' = true

theorem Ones.mono {E E' : Env} (hle : E.Le E') {cs : List AV} {cv : List Value} (h : Ones E cs cv) : Ones E' cs cv := ⟨⟨h.1.1, fun j c v a b => (h.1.2 j c v a b).mono hle⟩, h.2⟩
theorem Ones.append {E : Env} {a b : List AV} {x y : List Value} (h : Ones E a x) (k : Ones E b y) : Ones E (a ++ b) (x ++ y) := by
  refine ⟨⟨by simp [h.1.1, k.1.1], fun j c v hc hv => ?_⟩, fun v hv => (List.mem_append.1 hv).elim (h.2 v) (k.2 v)⟩
  by_cases hj : j < a.length
  · rw [List.getElem?_append_left hj] at hc
    rw [List.getElem?_append_left (by rw [h.1.1]; exact hj)] at hv
    exact h.1.2 j c v hc hv
  · rw [List.getElem?_append_right (by omega)] at hc
    rw [List.getElem?_append_right (by rw [h.1.1]; omega), h.1.1] at hv
    exact k.1.2 _ c v hc hv
theorem Ones.take {E : Env} {a : List AV} {x : List Value} (h : Ones E a x) (n : Nat) : Ones E (a.take n) (x.take n) := ⟨take_reps h.1 n, fun v hv => h.2 v (List.mem_of_mem_take hv)⟩
theorem Ones.drop {E : Env} {a : List AV} {x : List Value} (h : Ones E a x) (n : Nat) : Ones E (a.drop n) (x.drop n) := ⟨drop_reps h.1 n, fun v hv => h.2 v (List.mem_of_mem_drop hv)⟩
theorem Ones.get {E : Env} {a : List AV} {x : List Value} (h : Ones E a x) {j : Nat} {c : AV} (hc : a[j]? = some c) : ∃ v, x[j]? = some v ∧ v.oneCell' = true ∧ Rep E c v := by
  obtain ⟨v, hv⟩ : ∃ v, x[j]? = some v := ⟨_, List.getElem?_eq_getElem (by have := (List.getElem?_eq_some_iff.1 hc).1; rw [h.1.1]; exact this)⟩
  exact ⟨v, hv, h.2 v (List.mem_of_getElem? hv), h.1.2 j c v hc hv⟩

theorem splice_ones {E : Env} {cs vs cs' : List AV} {x y : List Value} {j : Nat} (h : splice cs j vs = some cs') (hx : Ones E cs x) (hy : Ones E vs y) : Ones E cs' (x.take j ++ y ++ x.drop (j + y.length)) := by
  unfold splice at h
  split at h
  · obtain rfl := Option.some.inj h
    rw [hy.1.1]
    exact ((hx.take j).append hy).append (hx.drop _)
  · exact absurd h (by simp)

/-- Cells set one by one. -/
theorem foldl_splice (off : Nat) (v : List Value) (c : Array Value) (h : off + v.length ≤ c.size) :
    (v.toArray.zipIdx.foldl (fun cs (x : Value × Nat) => cs.setIfInBounds (off + x.2) x.1) c).toList = c.toList.take off ++ v ++ c.toList.drop (off + v.length) := by
  have key : ∀ (v : List Value) (s : Nat) (c : Array Value), off + s + v.length ≤ c.size →
      ((v.zipIdx s).foldl (fun cs (x : Value × Nat) => cs.setIfInBounds (off + x.2) x.1) c).toList = c.toList.take (off + s) ++ v ++ c.toList.drop (off + s + v.length) := by
    intro v
    induction v with
    | nil => intro s c h; simp
    | cons a v ih =>
      intro s c h
      simp only [List.length_cons] at h
      simp only [List.zipIdx_cons, List.foldl_cons]
      rw [ih (s + 1) _ (by simp; omega)]
      apply List.ext_getElem?
      intro k
      have hl : (c.setIfInBounds (off + s) a).toList = c.toList.set (off + s) a := by simp
      rw [hl]
      simp only [List.append_assoc, List.getElem?_append, List.length_take, List.length_set, Array.length_toList, List.getElem?_take, List.getElem?_set, List.getElem?_drop, List.length_cons]
      have e1 : min (off + (s + 1)) c.size = off + s + 1 := by omega
      have e2 : min (off + s) c.size = off + s := by omega
      rw [e1, e2]
      by_cases hk : k < off + s
      · have : ¬ (off + s = k) := by omega
        simp [hk, show k < off + s + 1 by omega, show k < off + (s + 1) by omega, this]
      · by_cases hk2 : k = off + s
        · subst hk2
          have : off + s < c.size := by omega
          simp [this]
        · have h1 : ¬ (k < off + s + 1) := by omega
          rw [if_neg h1, if_neg hk]
          obtain ⟨m, rfl⟩ : ∃ m, k = off + s + 1 + m := ⟨k - (off + s + 1), by omega⟩
          rw [show off + s + 1 + m - (off + s + 1) = m by omega, show off + s + 1 + m - (off + s) = m + 1 by omega]
          simp only [Nat.add_lt_add_iff_right, List.getElem?_cons_succ]
          split
          · rfl
          · have : ¬ (off + s = off + (s + 1) + v.length + (m - v.length)) := by omega
            rw [if_neg this]
            congr 1
            omega
  have := key v 0 c (by simpa using h)
  simpa [Array.foldl_toList] using this

theorem fill_sound {E : Env} (place : Nat → Option (Nat × Nat)) : ∀ {ps : List (Nat × AV)} {pv : List (Nat × Value)} {cs cs' : List AV} {c : Array Value}, fillParts place cs ps = some cs' →
    pv.map (·.1) = ps.map (·.1) → Reps E (ps.map (·.2)) (pv.map (·.2)) → Ones E cs c.toList → ∃ c', Instr.fill place c pv = some c' ∧ Ones E cs' c'.toList
  | [], pv, cs, cs', c, h, hi, hr, ho => by
    obtain rfl : pv = [] := by simpa using hi
    obtain rfl := Option.some.inj h
    exact ⟨c, rfl, ho⟩
  | (i, v) :: ps, pv, cs, cs', c, h, hi, hr, ho => by
    cases pv with
    | nil => simp at hi
    | cons p pv =>
      obtain ⟨i', x⟩ := p
      simp only [List.map_cons, List.cons.injEq] at hi
      obtain ⟨rfl, hi⟩ := hi
      have hx : Rep E v x := hr.2 0 v x rfl rfl
      have hr' : Reps E (ps.map (·.2)) (pv.map (·.2)) := drop_reps hr 1
      unfold fillParts at h
      split at h
      · rename_i o n vs hp hcv
        split at h
        · rename_i hn
          split at h
          · rename_i cs1 hs
            obtain ⟨cv, hxc, h1, hrc⟩ := cells_sound hcv hx
            have hlen : cv.length = n := by rw [hrc.1, hn]
            have hsp := splice_ones hs ho ⟨hrc, h1⟩
            have hb : o + cv.length ≤ c.size := by
              unfold splice at hs
              split at hs
              · rename_i hle; have e := ho.1.1; rw [Array.length_toList] at e; rw [hrc.1]; omega
              · exact absurd hs (by simp)
            have hf := foldl_splice o cv c hb
            obtain ⟨c', hc', ho'⟩ := fill_sound (c := x.cells.zipIdx.foldl (fun cs (y : Value × Nat) => cs.setIfInBounds (o + y.2) y.1) c) place h hi hr' (by rw [hxc, hf]; exact hsp)
            refine ⟨c', ?_, ho'⟩
            unfold Instr.fill
            simp only [hp]
            have hsz : x.cells.size = cv.length := by rw [hxc]; simp
            rw [if_neg (by rw [hsz, hlen]; simp; omega)]
            exact hc'
          · exact absurd h (by simp)
        · exact absurd h (by simp)
      · exact absurd h (by simp)

theorem oprs2_sound {E : Env} {s : AS} {a : Act} (hT : TmOk E s a) : ∀ {l : List (Nat × Operand)} {vs : List (Nat × AV)}, oprs2 s l = some vs →
    (l.map fun p => (p.1, a.eval p.2)).map (·.1) = vs.map (·.1) ∧ Reps E (vs.map (·.2)) ((l.map fun p => (p.1, a.eval p.2)).map (·.2))
  | [], vs, h => by obtain rfl := Option.some.inj h; exact ⟨rfl, rfl, by simp⟩
  | (i, x) :: r, vs, h => by
    unfold oprs2 at h
    split at h
    · rename_i v vs' hx hr
      obtain rfl := Option.some.inj h
      obtain ⟨h1, h2⟩ := oprs2_sound hT hr
      refine ⟨by simpa using h1, by simpa using h2.1, fun j c v' hc hv => ?_⟩
      cases j with
      | zero => simp at hc hv; subst hc hv; exact opr_sound hT hx
      | succ j => exact h2.2 j c v' (by simpa using hc) (by simpa using hv)
    · exact absurd h (by simp)

theorem build_sound {E : Env} {P : Program} {w0 : World} {okb : Nat → Prop} {s : AS} {t : TypeId} {ps : List (Nat × AV)} {pv : Array (Nat × Value)} {r : Res} (hF : Frm E w0 okb) (hM : MemRel E w0.heap.size s.mem)
    (hi : pv.toList.map (·.1) = ps.map (·.1)) (hr : Reps E (ps.map (·.2)) (pv.toList.map (·.2))) (h : buildE P s t ps = some r) :
    ∃ y, (Instr.build t pv).run P E.w = .ok y E.w ∧ Stepped E w0 okb s.mem s.nx r y E := by
  unfold buildE at h
  split at h
  · rename_i pl z hpl hz
    split at h
    · rename_i cs hcs
      obtain rfl := Option.some.inj h
      obtain ⟨it, v, hit, hzv, rfl, h1⟩ := tzero_inv hz
      obtain ⟨c', hc', ho⟩ := fill_sound (c := v.cells) (pl[·]?) hcs hi hr ⟨Reps.map_const E _, fun u hu => (List.all_eq_true.1 h1) u hu⟩
      unfold tplaces at hpl
      split at hpl
      · rename_i fs hu
        refine ⟨.agg c', run_build E.w t pv c' ?_, .same hF hM ?_⟩
        · simp only [Program.built, hit, hu, hzv, hpl]
          simpa using hc'
        · have := Rep.agg cs c'.toList ho.1.1 ho.2 ho.1.2
          simpa using this
      · exact absurd hpl (by simp)
    · exact absurd h (by simp)
  · exact absurd h (by simp)
end Go.Ab
