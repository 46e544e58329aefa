/- The abstract interpreter: calls, sound. -/
import Derived.Test.YtchibfkcphbmjaaAb19
set_option linter.unusedVariables false
set_option linter.unusedSimpArgs false
set_option linter.unusedSectionVars false

namespace Go.Ab
open Go.RowKit (Below)

theorem rep_pure {E : Env} {a : AV} {v : Value} (h : owns a = false) (hr : Rep E a v) : RepP E.w E.ok a v := by
  cases hr with
  | pure h => exact h
  | _ => simp [owns] at h

/-- Cells of a row, read where all that is there may be read. -/
theorem row_repP {E : Env} {base : Nat} {mem : List (Nat × Arr)} (hM : MemRel E base mem) (hlt : ∀ b, E.ok b → b < E.w.heap.size) {id off len sz : Nat} {xs : List (List AV)} (hg : get mem id = some (.row sz xs) ∨ get mem id = some (.frz sz xs))
    (hlen : off + len ≤ xs.length) {v : Value} (hv : Rep E (.own id off len) v) : RepP E.w (fun b => b < E.w.heap.size) (.sl sz ((xs.drop off).take len)) v := by
  have hll : ((xs.drop off).take len).length = len := by simp; omega
  rcases hv.own_inv.2 with ⟨hl, rfl, rfl, rfl⟩ | ⟨b, o, z, cap, hl, rfl, hc, c0, t0, f0, hb0, _⟩
  · simpa using RepP.slNil sz
  · have hzz := row_loc hM hg hl
    subst hzz
    obtain ⟨hz, hcell⟩ := row_cells (off := off) (len := len) hM hg hl
    have := RepP.sl (w := E.w) (ok := fun b => b < E.w.heap.size) z ((xs.drop off).take len) b (o + off * z) cap (fun i j => (E.w.cell? ⟨b, o + off * z + i * z + j, none⟩).getD undef) (lt_of_blk hb0) (by omega) hz
      (fun i cs j a hi hj => by obtain ⟨y, h1, h2, h3⟩ := hcell i cs j a hi hj; simp [h1])
      (fun i cs j a hi hj => by obtain ⟨y, h1, h2, h3⟩ := hcell i cs j a hi hj; simpa [h1] using h2)
      (fun i cs j a hi hj => by obtain ⟨y, h1, h2, h3⟩ := hcell i cs j a hi hj; simpa [h1] using h3.mono hlt (fun _ _ => rfl))
    rwa [hll] at this

theorem args_temp {E : Env} {base : Nat} {mem : List (Nat × Arr)} (hM : MemRel E base mem) (hlt : ∀ b, E.ok b → b < E.w.heap.size) {a a' : AV} (h : ArgTo mem a a') : ∀ {v : Value}, Rep E a v → RepP E.w (fun b => b < E.w.heap.size) a' v := by
  induction h with
  | same h => exact fun hv => (rep_pure h hv).mono hlt (fun _ _ => rfl)
  | nil sz => intro v hv; obtain rfl := hv.nil_inv; exact .slNil sz
  | row hg hl => exact fun hv => row_repP hM hlt (.inl hg) hl hv
  | frz hg hl => exact fun hv => row_repP hM hlt (.inr hg) hl hv
  | @empty id off sz sz' xs hg =>
    intro v hv
    rcases hv.own_inv.2 with ⟨hl, rfl, _, rfl⟩ | ⟨b, o, z, cap, hl, rfl, hc, c0, t0, f0, hb0, _⟩
    · exact .slNil sz'
    · exact .sl sz' [] b _ cap (fun _ _ => undef) (lt_of_blk hb0) (by simp) (by simp) (by simp) (by simp) (by simp)
  | @box id j cs cs' hg hl hv ih =>
    intro v hr
    obtain ⟨ha, b, o, z, hloc, rfl⟩ := hr.ptr_inv
    obtain ⟨b', c, t, hloc', hb, _, _, hsz, hc⟩ := (hM.arr id _ hg).2
    rw [hloc] at hloc'
    obtain ⟨rfl, rfl, rfl⟩ : b = b' ∧ o = 0 ∧ z = 0 := by simpa using hloc'
    have key : ∀ (q : Nat) (c' : AV), cs'[q]? = some c' → ∃ y, E.w.cell? ⟨b, 0 + 0 * 0 + j + q, none⟩ = some y ∧ y.oneCell' = true ∧ RepP E.w (fun b => b < E.w.heap.size) c' y := by
      intro q c' hq
      obtain ⟨c1, hc1⟩ : ∃ c1, (cs.drop j)[q]? = some c1 := ⟨_, List.getElem?_eq_getElem (by rw [← hl]; exact (List.getElem?_eq_some_iff.1 hq).1)⟩
      have hc2 := hc1
      rw [List.getElem?_drop] at hc2
      obtain ⟨y, h1, h2, h3⟩ := hc (j + q) c1 hc2
      exact ⟨y, by rw [cell_at hb]; simpa using h1, h2, ih q c1 c' hc1 hq h3⟩
    exact .ref cs' b _ (fun q => (E.w.cell? ⟨b, 0 + 0 * 0 + j + q, none⟩).getD undef) (lt_of_blk hb)
      (fun q c' hq => by obtain ⟨y, h1, _⟩ := key q c' hq; simp only [h1, Option.getD_some]) (fun q c' hq => by obtain ⟨y, h1, h2, _⟩ := key q c' hq; simpa only [h1, Option.getD_some] using h2) (fun q c' hq => by obtain ⟨y, h1, _, h3⟩ := key q c' hq; simpa only [h1, Option.getD_some] using h3)
  | @fn f x y x' y' hx hy h1 h2 ih1 ih2 =>
    intro v hr
    obtain ⟨fv, cv, rfl, r1, r2⟩ := hr.fn_inv
    refine .fn f x' y' fv cv (by rw [r1.1, hx]) (by rw [r2.1, hy]) (fun j c u hj hu => ?_) (fun j c u hj hu => ?_)
    · obtain ⟨c1, hc1⟩ : ∃ c1, x[j]? = some c1 := ⟨_, List.getElem?_eq_getElem (by rw [← hx]; exact (List.getElem?_eq_some_iff.1 hj).1)⟩
      exact ih1 j c1 c hc1 hj (r1.2 j c1 u hc1 hu)
    · obtain ⟨c1, hc1⟩ : ∃ c1, y[j]? = some c1 := ⟨_, List.getElem?_eq_getElem (by rw [← hy]; exact (List.getElem?_eq_some_iff.1 hj).1)⟩
      exact ih2 j c1 c hc1 hj (r2.2 j c1 u hc1 hu)
  | @agg x x' hx h1 ih =>
    intro v hr
    obtain ⟨cv, rfl, g1, r1⟩ := hr.agg_inv
    refine .agg x' cv (by rw [r1.1, hx]) g1 (fun j c u hj hu => ?_)
    obtain ⟨c1, hc1⟩ : ∃ c1, x[j]? = some c1 := ⟨_, List.getElem?_eq_getElem (by rw [← hx]; exact (List.getElem?_eq_some_iff.1 hj).1)⟩
    exact ih j c1 c hc1 hj (r1.2 j c1 u hc1 hu)

/-- Rows that are frozen for good. -/
theorem frzOf_sound {w0 : World} {okb : Nat → Prop} {E : Env} {mem : List (Nat × Arr)} (hF : Frm E w0 okb) (hM : MemRel E w0.heap.size mem) : ∀ {as : List AV} {z : List (Nat × Arr)}, frzOf mem as = some z →
    ∃ E1, Frozen E w0 okb (z ++ mem) E1 ∧ (∀ id arr, get (z ++ mem) id = some arr → get mem id = some arr ∨ ∃ sz xs, get mem id = some (.row sz xs) ∧ arr = .frz sz xs) ∧
      ∀ a, a ∈ as → (∀ id off len, a = .own id off len → ∃ sz xs, (get mem id = some (.row sz xs) ∨ get mem id = some (.frz sz xs)) ∧ get (z ++ mem) id = some (.frz sz xs)) ∧ (owns a = true → (∃ id off len, a = .own id off len) ∨ ∃ cs, a = .agg cs ∧ cs.all (fun c => !owns c) = true)
  | [], z, h => by
    obtain rfl := Option.some.inj h
    exact ⟨E, .refl hF hM, fun id arr h => .inl h, by simp⟩
  | a :: r, z, h => by
    have other : (∀ id off len, a ≠ .own id off len) → frzOf mem r = some z → (owns a = true → ∃ cs, a = .agg cs ∧ cs.all (fun c => !owns c) = true) →
        ∃ E1, Frozen E w0 okb (z ++ mem) E1 ∧ (∀ id arr, get (z ++ mem) id = some arr → get mem id = some arr ∨ ∃ sz xs, get mem id = some (.row sz xs) ∧ arr = .frz sz xs) ∧
          ∀ a', a' ∈ a :: r → (∀ id off len, a' = .own id off len → ∃ sz xs, (get mem id = some (.row sz xs) ∨ get mem id = some (.frz sz xs)) ∧ get (z ++ mem) id = some (.frz sz xs)) ∧ (owns a' = true → (∃ id off len, a' = .own id off len) ∨ ∃ cs, a' = .agg cs ∧ cs.all (fun c => !owns c) = true) := by
      intro hne hr ho
      obtain ⟨E1, f1, q1, q2⟩ := frzOf_sound hF hM hr
      refine ⟨E1, f1, q1, fun a' ha' => ?_⟩
      rcases List.mem_cons.1 ha' with rfl | ha'
      · exact ⟨fun id off len e => absurd e (hne id off len), fun h => .inr (ho h)⟩
      · exact q2 a' ha'
    cases a with
    | own id off len =>
      unfold frzOf at h
      split at h
      · rename_i sz xs z' hg hr
        obtain rfl := Option.some.inj h
        obtain ⟨E1, f1, q1, q2⟩ := frzOf_sound hF hM hr
        have hk : ∃ E2, Frozen E w0 okb ((id, Arr.frz sz xs) :: (z' ++ mem)) E2 := by
          cases hz : get (z' ++ mem) id with
          | none =>
            exfalso
            have : ∀ (z : List (Nat × Arr)) (arr : Arr), get mem id = some arr → get (z ++ mem) id ≠ none := by
              intro z
              induction z with
              | nil => intro arr h e; rw [List.nil_append, h] at e; cases e
              | cons p z ih =>
                intro arr h e
                rw [List.cons_append, get_cons] at e
                split at e
                · cases e
                · exact ih arr h e
            exact this z' _ hg hz
          | some arr =>
            rcases q1 id arr hz with e | ⟨sz', xs', e, rfl⟩
            · rw [hg] at e
              obtain rfl := Option.some.inj e
              obtain ⟨E2, h1, h2, h3, h4, h5, h6, _⟩ := freeze_block f1.frm f1.mem hz
              exact ⟨E2, f1.trans ⟨h1, h2, h3, h4, h5, h6⟩⟩
            · rw [hg] at e
              obtain ⟨rfl, rfl⟩ : sz = sz' ∧ xs = xs' := by simpa using e
              exact ⟨E1, f1.w, f1.al, f1.loc, f1.le, f1.frm, f1.mem.cons (f1.mem.arr id _ hz).1 (f1.mem.arr id _ hz).2 (fun h => by cases h)⟩
        obtain ⟨E2, f2⟩ := hk
        have hget : ∀ i arr, get ((id, Arr.frz sz xs) :: (z' ++ mem)) i = some arr → get mem i = some arr ∨ ∃ sz xs, get mem i = some (.row sz xs) ∧ arr = .frz sz xs := by
          intro i arr hi
          rw [get_cons] at hi
          split at hi
          · rename_i e; subst e; exact .inr ⟨sz, xs, hg, (Option.some.inj hi).symm⟩
          · exact q1 i arr hi
        refine ⟨E2, f2, hget, fun a' ha' => ?_⟩
        rcases List.mem_cons.1 ha' with rfl | ha'
        · exact ⟨fun i o l e => by
            obtain ⟨rfl, rfl, rfl⟩ : id = i ∧ off = o ∧ len = l := by simpa using e
            exact ⟨sz, xs, .inl hg, by rw [List.cons_append, get_cons, if_pos rfl]⟩, fun _ => .inl ⟨id, off, len, rfl⟩⟩
        · refine ⟨fun i o l e => ?_, (q2 a' ha').2⟩
          obtain ⟨sz', xs', h1, h2⟩ := (q2 a' ha').1 i o l e
          by_cases hi : id = i
          · subst hi
            rw [hg] at h1
            obtain ⟨rfl, rfl⟩ : sz = sz' ∧ xs = xs' := by simpa using h1
            exact ⟨sz, xs, .inl hg, by rw [List.cons_append, get_cons, if_pos rfl]⟩
          · exact ⟨sz', xs', h1, by rw [List.cons_append, get_cons, if_neg hi]; exact h2⟩
      · rename_i sz xs z' hg hr
        obtain rfl := Option.some.inj h
        obtain ⟨E1, f1, q1, q2⟩ := frzOf_sound hF hM hr
        refine ⟨E1, f1, q1, fun a' ha' => ?_⟩
        rcases List.mem_cons.1 ha' with rfl | ha'
        · refine ⟨fun i o l e => ?_, fun _ => .inl ⟨id, off, len, rfl⟩⟩
          obtain ⟨rfl, rfl, rfl⟩ : id = i ∧ off = o ∧ len = l := by simpa using e
          refine ⟨sz, xs, .inr hg, ?_⟩
          have : ∀ (z : List (Nat × Arr)) (arr : Arr), get mem id = some arr → get (z ++ mem) id ≠ none := by
            intro z
            induction z with
            | nil => intro arr h e; rw [List.nil_append, h] at e; cases e
            | cons p z ih =>
              intro arr h e
              rw [List.cons_append, get_cons] at e
              split at e
              · cases e
              · exact ih arr h e
          cases hz : get (z' ++ mem) id with
          | none => exact absurd hz (this z' _ hg)
          | some arr =>
            rcases q1 id arr hz with e | ⟨_, _, e, _⟩
            · rw [hg] at e; exact e.symm
            · rw [hg] at e; cases e
        · exact q2 a' ha'
      · exact absurd h (by simp)
    | agg cs =>
      unfold frzOf at h
      split at h
      · rename_i hc
        exact other (by simp) h (fun _ => ⟨cs, rfl, hc⟩)
      · exact absurd h (by simp)
    | ptr _ _ _ => simp only [frzOf, owns, if_true] at h; exact absurd h (by simp)
    | fn _ _ _ => simp only [frzOf, owns, if_true] at h; exact absurd h (by simp)
    | tup _ => simp only [frzOf, owns, if_true] at h; exact absurd h (by simp)
    | _ => exact other (by simp) (by simpa [frzOf, owns] using h) (fun h => by simp [owns] at h)
end Go.Ab
