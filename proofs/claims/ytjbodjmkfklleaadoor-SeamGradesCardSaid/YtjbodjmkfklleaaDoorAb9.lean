/- The abstract interpreter: new blocks, stores. -/
import Derived.Test.YtjbodjmkfklleaaDoorAb8
import Derived.Laws.CopyOwn
set_option linter.unusedVariables false
set_option linter.unusedSimpArgs false
set_option linter.unusedSectionVars false

namespace Go.Ab
open Go.RowKit (Below)

/-- A new block. -/
def Env.new (E : Env) (c : Array Value) (t : TypeId) (id z : Nat) : Env where
  w := E.w.alloc (.cells c t)
  ok := E.ok
  loc := fun i => if i = id then some (E.w.heap.size, 0, z) else E.loc i
  al := fun i => E.al i ∨ i = id

theorem heap_alloc_old {w : World} {o : Obj} {k : Nat} (h : k < w.heap.size) : (w.alloc o).heap[k]? = w.heap[k]? := Below.heap_alloc w o k h
theorem heap_alloc_at (w : World) (o : Obj) : (w.alloc o).heap[w.heap.size]? = some o := by
  show (w.heap.push o)[w.heap.size]? = _
  simp
theorem lt_of_blk {w : World} {b : Nat} {o : Obj} (h : w.heap[b]? = some o) : b < w.heap.size := by
  rw [Array.getElem?_eq_some_iff] at h
  exact h.1

theorem new_block {E : Env} {w0 : World} {okb : Nat → Prop} {mem : List (Nat × Arr)} (hF : Frm E w0 okb) (hM : MemRel E w0.heap.size mem) (c : Array Value) (t : TypeId) (id z : Nat) (hid : ¬ E.al id) :
    E.Le (E.new c t id z) ∧ Frm (E.new c t id z) w0 okb ∧ MemRel (E.new c t id z) w0.heap.size mem ∧ (E.new c t id z).loc id = some (E.w.heap.size, 0, z) ∧ (E.new c t id z).al id ∧
      (E.new c t id z).w.heap[E.w.heap.size]? = some (.cells c t (0, 0)) ∧ w0.heap.size ≤ E.w.heap.size ∧ ¬ (E.new c t id z).ok E.w.heap.size ∧
      ∀ id' arr' b' o' z', id' ≠ id → get mem id' = some arr' → arr'.isMut = true → (E.new c t id z).loc id' = some (b', o', z') → b' ≠ E.w.heap.size := by
  have hle : E.Le (E.new c t id z) := {
    ok := fun _ h => h
    blk := fun b hb => heap_alloc_old (hF.lt b hb)
    al := fun i hi => ⟨.inl hi, if_neg (by rintro rfl; exact hid hi)⟩
    sz := fun b c' t' f h => ⟨c', f, (heap_alloc_old (lt_of_blk h)).trans h, rfl⟩ }
  have hlt : ∀ id' arr' b' o' z', get mem id' = some arr' → arr'.isMut = true → E.loc id' = some (b', o', z') → b' < E.w.heap.size := by
    intro id' arr' b' o' z' hg hm hl
    have hr := (hM.arr id' arr' hg).2
    cases arr' with
    | row sz xs => simp only [ArrRel, hl] at hr; obtain ⟨_, _, hb, _⟩ := hr; exact lt_of_blk hb
    | box cs => obtain ⟨b, c', t', hl', hb, _⟩ := hr; rw [hl] at hl'; obtain ⟨rfl, -⟩ := Prod.mk.inj (Option.some.inj hl'); exact lt_of_blk hb
    | frz _ _ => cases hm
    | dead => cases hm
  have hno : ¬ E.ok E.w.heap.size := fun h => Nat.lt_irrefl _ (hF.lt _ h)
  refine ⟨hle, ⟨hF.below.alloc hF.below.size _, hF.okb, fun b hb => ?_⟩, hM.mono hle (fun i arr hg hm b o z' hl => ⟨heap_alloc_old (hlt i arr b o z' hg hm hl), ?_⟩), if_pos rfl, .inr rfl, heap_alloc_at _ _, hF.below.size, hno, ?_⟩
  · have := hF.lt b hb
    show b < (E.w.heap.push _).size
    simp; omega
  · have hr := (hM.arr i arr hg).2
    cases arr with
    | row sz xs => simp only [ArrRel, hl] at hr; obtain ⟨_, _, _, _, h, _⟩ := hr; exact h
    | box cs => obtain ⟨b', c', t', hl', hb, _, h, _⟩ := hr; rw [hl] at hl'; obtain ⟨rfl, -⟩ := Prod.mk.inj (Option.some.inj hl'); exact h
    | frz _ _ => cases hm
    | dead => cases hm
  · intro id' arr' b' o' z' hne hg hm hl
    have e : E.loc id' = some (b', o', z') := by simpa [Env.new, hne] using hl
    have := hlt id' arr' b' o' z' hg hm e
    omega

/-- A block of the call's own, written. -/
def Env.set (E : Env) (b : Nat) (c : Array Value) : Env := { E with w := E.w.setRow b c }

theorem set_block {E : Env} {w0 : World} {okb : Nat → Prop} {mem : List (Nat × Arr)} (hF : Frm E w0 okb) (hM : MemRel E w0.heap.size mem) {id : Nat} {arr : Arr} {b o z : Nat} {c c' : Array Value} {t : TypeId}
    (hg : get mem id = some arr) (hm : arr.isMut = true) (hl : E.loc id = some (b, o, z)) (hb : E.w.heap[b]? = some (.cells c t (0, 0))) (hbase : w0.heap.size ≤ b) (hok : ¬ E.ok b) (hs : c'.size = c.size) :
    E.Le (E.set b c') ∧ Frm (E.set b c') w0 okb ∧ (E.set b c').w.heap[b]? = some (.cells c' t (0, 0)) ∧ ∀ arr', ArrRel (E.set b c') w0.heap.size id arr' → MemRel (E.set b c') w0.heap.size ((id, arr') :: mem) := by
  have hat : (E.set b c').w.heap[b]? = some (.cells c' t (0, 0)) := setRow_heap E.w b c c' t (0, 0) hb
  have hot : ∀ k, k ≠ b → (E.set b c').w.heap[k]? = E.w.heap[k]? := fun k hk => setRow_other E.w b k c' hk
  have hle : E.Le (E.set b c') := {
    ok := fun _ h => h
    blk := fun k hk => hot k (by rintro rfl; exact hok hk)
    al := fun i hi => ⟨hi, rfl⟩
    sz := fun k d t' f h => by
      by_cases hk : k = b
      · subst hk
        rw [hb] at h
        obtain ⟨rfl, rfl, rfl⟩ : c = d ∧ t = t' ∧ (0, 0) = f := by simpa using h
        exact ⟨c', _, hat, hs⟩
      · exact ⟨d, f, (hot k hk).trans h, rfl⟩ }
  refine ⟨hle, ⟨below_setRow hF.below hbase c', hF.okb, fun k hk => ?_⟩, hat, fun arr' hr => ?_⟩
  · have := hF.lt k hk
    simpa [Env.set] using this
  · have key : ∀ i a, i ≠ id → get mem i = some a → ArrRel (E.set b c') w0.heap.size i a := by
      intro i a hne hgi
      obtain ⟨hal, hra⟩ := hM.arr i a hgi
      refine hra.mono hle hal fun hma b' o' z' hl' => ?_
      have hbb : b' ≠ b := by
        rintro rfl
        exact hne (hM.far i id a arr b' o' z' o z hgi hg hma hm hl' hl)
      refine ⟨hot b' hbb, ?_⟩
      cases a with
      | row sz xs => simp only [ArrRel, hl'] at hra; obtain ⟨_, _, _, _, h, _⟩ := hra; exact h
      | box cs => obtain ⟨b2, c2, t2, h2, _, _, h, _⟩ := hra; rw [hl'] at h2; obtain ⟨rfl, -⟩ := Prod.mk.inj (Option.some.inj h2); exact h
      | frz _ _ => cases hma
      | dead => cases hma
    refine ⟨fun i a hgi => ?_, fun i i' a a' b1 o1 z1 o2 z2 h1 h2 m1 m2 l1 l2 => ?_⟩
    · rw [get_cons] at hgi
      split at hgi
      · rename_i e; subst e; obtain rfl := Option.some.inj hgi; exact ⟨(hM.arr id arr hg).1, hr⟩
      · rename_i e; exact ⟨(hM.arr i a hgi).1, key i a (fun q => e q.symm) hgi⟩
    · rw [get_cons] at h1 h2
      split at h1
      · rename_i e1; subst e1
        split at h2
        · rename_i e2; exact e2
        · exact hM.far id i' arr a' b1 o1 z1 o2 z2 hg h2 hm m2 l1 l2
      · split at h2
        · rename_i e2; subst e2; exact hM.far i id a arr b1 o1 z1 o2 z2 h1 hg m1 hm l1 l2
        · exact hM.far i i' a a' b1 o1 z1 o2 z2 h1 h2 m1 m2 l1 l2

theorem cells_sound {E : Env} {v : AV} {cs : List AV} {x : Value} (h : cells v = some cs) (hx : Rep E v x) : ∃ cv : List Value, x.cells = cv.toArray ∧ (∀ u, u ∈ cv → u.oneCell' = true) ∧ Reps E cs cv := by
  have one : ∀ (y : Value), y.oneCell' = true → Rep E v y → cs = [v] → ∃ cv : List Value, y.cells = cv.toArray ∧ (∀ u, u ∈ cv → u.oneCell' = true) ∧ Reps E cs cv := by
    intro y hy hr e
    subst e
    refine ⟨[y], (by cases y <;> first | rfl | (cases hy)), by simpa using hy, rfl, fun j c u hc hu => ?_⟩
    cases j with
    | zero => simp at hc hu; subst hc hu; exact hr
    | succ j => simp at hc
  unfold cells at h
  split at h
  · obtain rfl := Option.some.inj h
    obtain ⟨cv, rfl, h1, hr⟩ := hx.agg_inv
    exact ⟨cv, rfl, h1, hr⟩
  · exact absurd h (by simp)
  · exact absurd h (by simp)
  · exact absurd h (by simp)
  · split at h
    · rename_i h1
      obtain rfl := Option.some.inj h
      obtain rfl := hx.sc_inv
      exact one _ h1 hx rfl
    · exact absurd h (by simp)
  · rename_i n1 n2 n3 n4 n5
    obtain rfl := Option.some.inj h
    cases v with
    | agg cs => exact absurd rfl (n1 cs)
    | tup cs => exact absurd rfl (n2 cs)
    | fr a b => exact absurd rfl (n3 a b)
    | jk => exact absurd rfl n4
    | sc v => exact absurd rfl (n5 v)
    | nil => obtain rfl := hx.nil_inv; exact one _ rfl hx rfl
    | sl sz xs => rcases hx.sl_inv with ⟨_, rfl | ⟨_, _, rfl⟩⟩ | ⟨_, _, _, rfl, _⟩ <;> exact one _ rfl hx rfl
    | own a b c => rcases hx.own_inv.2 with ⟨_, _, _, rfl⟩ | ⟨_, _, _, _, _, rfl, _⟩ <;> exact one _ rfl hx rfl
    | ptr a b c => obtain ⟨_, _, _, _, _, rfl⟩ := hx.ptr_inv; exact one _ rfl hx rfl
    | ref cs => obtain ⟨_, _, rfl, _⟩ := hx.ref_inv; exact one _ rfl hx rfl
    | fn a b c => obtain ⟨_, _, rfl, _⟩ := hx.fn_inv; exact one _ rfl hx rfl

theorem box_new {E : Env} {w0 : World} {okb : Nat → Prop} {mem : List (Nat × Arr)} {nx : Nat} (hF : Frm E w0 okb) (hM : MemRel E w0.heap.size mem) {vs : List AV} {cv : List Value} {t : TypeId}
    (hr : Reps E vs cv) (h1 : ∀ u, u ∈ cv → u.oneCell' = true) (hid : ¬ E.al nx) :
    ∃ E', E'.w = E.w.alloc (.cells cv.toArray t) ∧ Stepped E w0 okb mem nx ⟨.ptr nx 0 0, [(nx, .box vs)], nx + 1, []⟩ (.pointer (some ⟨E.w.heap.size, 0, none⟩)) E' := by
  obtain ⟨hle, hF', hM', hl, ha, hb, hbase, hok, hfar⟩ := new_block hF hM cv.toArray t nx 0 hid
  refine ⟨_, rfl, hle, fun id => ⟨fun h => h.elim .inl (fun e => .inr (by simp only; omega)), fun h => h.elim .inl (fun e => .inr (by simp only at e; omega))⟩, by simp, hF', ?_, ?_⟩
  · refine hM'.cons ha ⟨E.w.heap.size, cv.toArray, t, hl, hb, hbase, hok, by simp [hr.1], fun j a hj => ?_⟩ (fun _ id' arr' b o z o' z' hne hg hm h2 h3 => ?_)
    · obtain ⟨y, hy⟩ : ∃ y, cv[j]? = some y := ⟨_, List.getElem?_eq_getElem (by have := (List.getElem?_eq_some_iff.1 hj).1; rw [hr.1]; exact this)⟩
      exact ⟨y, by simpa using hy, h1 y (List.mem_of_getElem? hy), (hr.2 j a y hj hy).mono hle⟩
    · rw [hl] at h2
      obtain ⟨rfl, -⟩ := Prod.mk.inj (Option.some.inj h2)
      exact hfar id' arr' _ o' z' hne hg hm h3 rfl
  · have := Rep.ptr (E := E.new cv.toArray t nx 0) nx 0 0 _ 0 0 ha hl
    simpa using this

theorem alloc_sound {E : Env} {P : Program} {w0 : World} {okb : Nat → Prop} {s : AS} {t : TypeId} {r : Res} (hF : Frm E w0 okb) (hM : MemRel E w0.heap.size s.mem)
    (h : allocE P s t = some r) (hid : ∀ id, s.nx ≤ id → id < r.nx → ¬ E.al id) : ∃ y E', (Instr.alloc t true (.tuple #[])).run P E.w = .ok y E'.w ∧ Stepped E w0 okb s.mem s.nx r y E' := by
  unfold allocE at h
  split at h
  · rename_i g n z hz hzero
    split at h
    · rename_i hlen
      obtain rfl := Option.some.inj h
      obtain ⟨v, hv, rfl, h1⟩ := run_zero_tzero hzero E.w
      · obtain ⟨E', hw, hS⟩ := box_new (nx := s.nx) (t := t) hF hM (Reps.map_const E v.cells.toList) (fun u hu => (List.all_eq_true.1 h1) u hu) (hid s.nx (Nat.le_refl _) (by simp))
        refine ⟨_, E', ?_, hS⟩
        rw [hw]
        simp [Instr.alloc, hv, newVar, newRow]
    · exact absurd h (by simp)
  · exact absurd h (by simp)
theorem boxE_sound {E : Env} {P : Program} {w0 : World} {okb : Nat → Prop} {s : AS} {t : TypeId} {v : AV} {x : Value} {r : Res} (hF : Frm E w0 okb) (hM : MemRel E w0.heap.size s.mem)
    (hx : Rep E v x) (h : boxE s v = some r) (hid : ∀ id, s.nx ≤ id → id < r.nx → ¬ E.al id) : ∃ y E', (Instr.box t x).run P E.w = .ok y E'.w ∧ Stepped E w0 okb s.mem s.nx r y E' := by
  unfold boxE at h
  split at h
  · rename_i vs hvs
    obtain rfl := Option.some.inj h
    obtain ⟨cv, hc, h1, hr⟩ := cells_sound hvs hx
    obtain ⟨E', hw, hS⟩ := box_new (nx := s.nx) (t := t) hF hM hr h1 (hid s.nx (Nat.le_refl _) (by simp))
    refine ⟨_, E', ?_, hS⟩
    rw [hw]
    simp [Instr.box, newVar, newRow, hc]
  · exact absurd h (by simp)
end Go.Ab
