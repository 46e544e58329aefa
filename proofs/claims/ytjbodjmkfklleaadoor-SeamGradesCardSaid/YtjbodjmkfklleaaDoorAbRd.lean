/- The abstract interpreter: how a row's arguments are read. -/
import Derived.Test.YtjbodjmkfklleaaDoorAbW2
import Derived.ChangeOld
import Derived.WideShapes
import Derived.ChangeShapes
import Derived.ChangeAt
set_option linter.unusedVariables false
set_option linter.unusedSimpArgs false
set_option linter.unusedSectionVars false

namespace Go.Ab
open Go.RowKit (Below)

/-- What cells are read as. -/
def CR (w : World) (cs : List Value) (as : List AV) : Prop := cs.length = as.length ∧ ∀ (j : Nat) (a : AV) (v : Value), as[j]? = some a → cs[j]? = some v → v.oneCell' = true ∧ RepP w (fun b => b < w.heap.size) a v
theorem CR.one {w : World} {v : Value} {a : AV} (h1 : v.oneCell' = true) (h : RepP w (fun b => b < w.heap.size) a v) : CR w [v] [a] := by
  refine ⟨rfl, fun j a' v' ha hv => ?_⟩
  cases j with
  | zero => simp at ha hv; subst ha hv; exact ⟨h1, h⟩
  | succ j => simp at ha
theorem CR.append {w : World} {cs cs' : List Value} {as as' : List AV} (h : CR w cs as) (h' : CR w cs' as') : CR w (cs ++ cs') (as ++ as') := by
  refine ⟨by simp [h.1, h'.1], fun j a v ha hv => ?_⟩
  by_cases hj : j < as.length
  · rw [List.getElem?_append_left hj] at ha
    rw [List.getElem?_append_left (by rw [h.1]; exact hj)] at hv
    exact h.2 j a v ha hv
  · rw [List.getElem?_append_right (by omega)] at ha
    rw [List.getElem?_append_right (by rw [h.1]; omega), h.1] at hv
    exact h'.2 _ a v ha hv
structure Reads (P : Program) (t : TypeId) {α : Type} (f : α → List AV) (q : α → Prop) : Prop where
  rd : ∀ {H : Type} {enc : TypeId × Value → H} {w : World} {base : Nat} {spare : Nat → Bool} {held : Bool} {fuel : Nat} {cs : List Value} {x : DataW H × List MemPlace}, DataW.trod enc P w base spare held fuel t cs = some x → ∃ a, CR w cs (f a) ∧ q a
section
variable {P : Program} {t : TypeId}
theorem reads_bool (h : P.underlying t = some .bool) : Reads P t (fun b : Bool => [boo b]) (fun _ => True) := by
  constructor
  intro H enc w base spare held fuel cs x hx
  obtain ⟨b, rfl, _⟩ := DataW.trod_bool h hx
  exact ⟨b, .one rfl (.sc _), trivial⟩
theorem reads_int {k : IntKind} (h : P.underlying t = some (.int k)) : Reads P t (fun n : Int => [.sc (.int k n)]) (fun n => (Lit.int k n).wf = true) := by
  constructor
  intro H enc w base spare held fuel cs x hx
  obtain ⟨n, rfl, _, hw⟩ := DataW.trod_int h hx
  exact ⟨n, .one rfl (.sc _), hw⟩
theorem reads_str (h : P.underlying t = some .string) : Reads P t (fun s : ByteArray => [str s]) (fun s => s.size ≤ maxLen) := by
  constructor
  intro H enc w base spare held fuel cs x hx
  obtain ⟨s, rfl, _, hw⟩ := DataW.trod_string h hx
  exact ⟨s, .one rfl (.sc _), hw⟩
theorem Reads.map {α β : Type} {f : α → List AV} {q : α → Prop} {g : β → List AV} {q' : β → Prop} (h : Reads P t f q) (m : α → β) (hf : ∀ a, g (m a) = f a) (hq : ∀ a, q a → q' (m a)) : Reads P t g q' := by
  constructor
  intro H enc w base spare held fuel cs x hx
  obtain ⟨a, h1, h2⟩ := h.rd hx
  exact ⟨m a, by rw [hf]; exact h1, hq a h2⟩
theorem reads_slice {e : TypeId} {n : Nat} {α : Type} {f : α → List AV} {q : α → Prop} (h : P.underlying t = some (.slice e)) (hc : P.cellsOf e = n) (hn : 0 < n) (he : Reads P e f q) (hf : ∀ a, (f a).length = n) :
    Reads P t (fun l : List α => [.sl n (l.map f)]) (fun l => l.length ≤ maxLen ∧ ∀ a, a ∈ l → q a) := by
  constructor
  intro H enc w base spare held fuel cs x hx
  rcases DataW.trod_slice h hx with ⟨rfl, _⟩ | ⟨a, len, cap, elems, rest, m, _, rfl, _, hb, hl, hm, hlen, hel, _, _⟩
  · exact ⟨[], .one rfl (.slNil n), by simp, by simp⟩
  · have each : ∀ i, i < len → ∃ (cs' : List Value) (p : α), w.cells? base (a.add (i * n)) n = some cs' ∧ CR w cs' (f p) ∧ q p := by
      intro i hi
      have := hel i hi
      rw [List.getElem?_eq_getElem (by omega), hc, Option.bind_eq_some_iff] at this
      obtain ⟨cs', h1, h2⟩ := this
      obtain ⟨p, h3, h4⟩ := he.rd h2
      exact ⟨cs', p, h1, h3, h4⟩
    cases len with
    | zero => exact ⟨[], .one rfl (.slEmp n a cap), by simp, by simp⟩
    | succ k =>
      let g : Nat → α := fun i => if hi : i < k + 1 then (each i hi).choose_spec.choose else (each 0 (by omega)).choose_spec.choose
      have hg : ∀ i, i < k + 1 → ∃ cs', w.cells? base (a.add (i * n)) n = some cs' ∧ CR w cs' (f (g i)) ∧ q (g i) := by
        intro i hi
        have e : g i = (each i hi).choose_spec.choose := dif_pos hi
        rw [e]
        exact ⟨_, (each i hi).choose_spec.choose_spec⟩
      have rd : ∀ i, i < k + 1 → ∀ j, j < n → ∃ y a', w.cell? (a.add (i * n + j)) = some y ∧ (f (g i))[j]? = some a' ∧ y.oneCell' = true ∧ RepP w (fun b => b < w.heap.size) a' y := by
        intro i hi j hj
        obtain ⟨cs', h1, h2, _⟩ := hg i hi
        obtain ⟨_, h3, h4⟩ := World.cells?_some h1
        obtain ⟨y, hy⟩ : ∃ y, cs'[j]? = some y := ⟨_, List.getElem?_eq_getElem (by omega)⟩
        obtain ⟨a', ha⟩ : ∃ a', (f (g i))[j]? = some a' := ⟨_, List.getElem?_eq_getElem (by rw [hf]; exact hj)⟩
        have h5 := h4 j hj
        rw [hy] at h5
        have e5 : (a.add (i * n)).add j = a.add (i * n + j) := by
          by_cases z : i * n = 0
          · simp [Addr.add, z]
          · by_cases z2 : j = 0
            · simp [Addr.add, z2]
            · simp [Addr.add, z, z2, Nat.add_assoc]
        rw [e5] at h5
        exact ⟨_, _, h5, ha, h2.2 j _ _ ha hy⟩
      obtain ⟨b, o, sp⟩ := a
      have hsp : sp = none := by
        obtain ⟨y, _, h1, _⟩ := rd 0 (by omega) 0 hn
        have e0 : (⟨b, o, sp⟩ : Addr).add (0 * n + 0) = ⟨b, o, sp⟩ := by simp [Addr.add]
        rw [e0] at h1
        unfold World.cell? at h1
        cases sp with
        | none => rfl
        | some z =>
          exfalso
          revert h1
          split <;> simp
      subst hsp
      have hblk : b < w.heap.size := by
        obtain ⟨cs', h1, _⟩ := hg 0 (by omega)
        have := World.cells?_block h1 hn
        simpa [Addr.add] using this
      refine ⟨(List.range (k + 1)).map g, .one rfl ?_, by simp; omega, ?_⟩
      · have key := RepP.sl (w := w) (ok := fun b => b < w.heap.size) n (((List.range (k + 1)).map g).map f) b o cap (fun i j => (w.cell? ⟨b, o + i * n + j, none⟩).getD undef) hblk (by simp; exact hl) ?_ ?_ ?_ ?_
        · simpa using key
        · intro i c hi
          simp only [List.getElem?_map, Option.map_eq_some_iff] at hi
          obtain ⟨_, ⟨_, _, rfl⟩, rfl⟩ := hi
          exact hf _
        all_goals
          intro i c j c' hi hj
          simp only [List.getElem?_map, Option.map_eq_some_iff] at hi
          obtain ⟨_, ⟨i', hi', rfl⟩, rfl⟩ := hi
          obtain ⟨hlt, e⟩ := List.getElem?_eq_some_iff.1 hi'
          simp at hlt e
          subst e
          obtain ⟨y, a', h1, h2, h3, h4⟩ := rd i (by omega) j (by have := (List.getElem?_eq_some_iff.1 hj).1; rw [hf] at this; exact this)
          rw [hj] at h2
          obtain rfl := Option.some.inj h2
          rw [addr_add] at h1
          have e2 : o + i * n + j = o + (i * n + j) := Nat.add_assoc ..
          rw [e2, h1]
          first | rfl | exact h3 | exact h4
      · intro p hp
        simp only [List.mem_map, List.mem_range] at hp
        obtain ⟨i, hi, rfl⟩ := hp
        obtain ⟨_, _, _, h⟩ := hg i hi
        exact h
/-- Fields, from cell o on. -/
structure ReadsF (P : Program) (fs : List Field) (o N : Nat) {α : Type} (f : α → List AV) (q : α → Prop) : Prop where
  rd : ∀ {H : Type} {enc : TypeId × Value → H} {w : World} {base : Nat} {spare : Nat → Bool} {held : Bool} {n : Nat} {cs : List Value}, cs.length = N →
    (∀ (i : Nat) (fd : Field), fs[i]? = some fd → ∃ y, DataW.trod enc P w base spare held n fd.type ((cs.drop fd.offset).take (P.cellsOf fd.type)) = some y) → ∃ a, CR w (cs.drop o) (f a) ∧ q a
theorem readsF_nil {N : Nat} : ReadsF P [] N N (fun _ : Unit => []) (fun _ => True) := by
  constructor
  intro H enc w base spare held n cs hl _
  refine ⟨(), ⟨by simp [hl], fun j a v ha => by simp at ha⟩, trivial⟩
theorem readsF_cons {fd : Field} {fs : List Field} {o m N : Nat} {α β : Type} {f : α → List AV} {q : α → Prop} {g : β → List AV} {q' : β → Prop} (ho : fd.offset = o) (hm : P.cellsOf fd.type = m) (hf : Reads P fd.type f q) (hr : ReadsF P fs (o + m) N g q') :
    ReadsF P (fd :: fs) o N (fun x : α × β => f x.1 ++ g x.2) (fun x => q x.1 ∧ q' x.2) := by
  constructor
  intro H enc w base spare held n cs hl h
  obtain ⟨y, hy⟩ := h 0 fd rfl
  rw [ho, hm] at hy
  obtain ⟨a, h1, h2⟩ := hf.rd hy
  obtain ⟨b, h3, h4⟩ := hr.rd hl fun i fd' hi => h (i + 1) fd' (by simpa using hi)
  refine ⟨(a, b), ?_, h2, h4⟩
  have e : cs.drop o = (cs.drop o).take m ++ cs.drop (o + m) := by rw [← List.drop_drop, List.take_append_drop]
  rw [e]
  exact h1.append h3
theorem reads_struct {fs : Array Field} {N : Nat} {α : Type} {f : α → List AV} {q : α → Prop} (h : P.underlying t = some (.struct fs)) (hc : P.cellsOf t = N) (hf : ReadsF P fs.toList 0 N f q) : Reads P t f q := by
  constructor
  intro H enc w base spare held fuel cs x hx
  obtain ⟨xs, n, _, _, hl, hxl, hi⟩ := DataW.trod_struct h hx
  have := hf.rd (cs := cs) (by rw [hl, hc]) fun i fd hfd => by
    have hfd' : fs[i]? = some fd := by simpa using hfd
    have hlt := (Array.getElem?_eq_some_iff.1 hfd').1
    exact ⟨xs[i], by rw [hi i fd hfd']; exact List.getElem?_eq_getElem (by omega)⟩
  simpa using this

/-! Arguments. -/
section
variable {H : Type} {enc : TypeId × Value → H} {w : World} {base b0 : Nat} {spare : Nat → Bool} {held : Bool} {v : Value} {d : DataW H} {p : List MemPlace} {α : Type} {f : α → List AV} {q : α → Prop}
theorem arg_struct {fs : Array Field} {r : Reach} (h : Reads P t f q) (hu : P.underlying t = some (.struct fs)) (hval : Value.okWide P w r b0 t v) (hd : DataW.Trod enc P w base spare held t v d p) : ∃ a, RepP w (fun b => b < w.heap.size) (.agg (f a)) v ∧ q a := by
  obtain ⟨cs, rfl, _⟩ := WideShapes.okWide_struct hu hval
  obtain ⟨fuel, hf⟩ := hd
  obtain ⟨a, h1, h2⟩ := h.rd hf
  have e : (Value.agg cs).cells.toList = cs.toList := rfl
  rw [e] at h1
  refine ⟨a, ?_, h2⟩
  have := RepP.agg (w := w) (ok := fun b => b < w.heap.size) (f a) cs.toList h1.1 (fun x hx => ?_) (fun j c u hc hu => (h1.2 j c u hc hu).2)
  · simpa using this
  · obtain ⟨j, hj⟩ := List.getElem?_of_mem hx
    have hlt := (List.getElem?_eq_some_iff.1 hj).1
    obtain ⟨y, hy⟩ : ∃ y, (f a)[j]? = some y := ⟨_, List.getElem?_eq_getElem (by have := h1.1; omega)⟩
    exact (h1.2 j y x hy hj).1
end
end
theorem wf_i64 {n : Int} (h : (Lit.int .i64 n).wf = true) : InR n := by
  simp only [Lit.wf, Bool.and_eq_true, decide_eq_true_eq] at h
  have e1 : IntKind.i64.min = -9223372036854775808 := by rfl
  have e2 : IntKind.i64.max = 9223372036854775807 := by rfl
  rw [e1, e2] at h
  exact h
/-- A law that answers true, as the machine runs it. -/
theorem law_runs {P : Program} {X : CallRel} (hX : RSound P X) (hm : P.follows .mixedOrders = true) {f : FuncId} {as : List AV} (h : Ret P X f as (boo true)) {w : World} {vs : List Value} (hl : vs.length = as.length)
    (hv : ∀ (j : Nat) (a : AV) (v : Value), as[j]? = some a → vs[j]? = some v → RepP w (fun b => b < w.heap.size) a v) : Calls P f vs.toArray w fun e w' => e = .returned (.bool true) ∧ Below w.heap.size w w' := by
  obtain ⟨_, hc, _⟩ := ret_sound hX hm f as _ h
  refine (hc w (fun b => b < w.heap.size) vs (fun _ h => h) ⟨hl, hv⟩).mono ?_
  rintro e w' ⟨v, rfl, hB, bs, rs, ws, _, hr, hr1, rfl⟩
  refine ⟨?_, hB⟩
  cases hr with
  | nil => cases hr1
  | cons ha hr =>
    cases hr with
    | nil =>
      simp only at hr1
      subst hr1
      cases ha with
      | pure h => cases h; rfl
    | cons _ _ => cases hr1
    | agg _ _ _ => cases hr1
  | agg _ _ hr =>
    cases hr with
    | nil => cases hr1
    | cons _ _ => cases hr1
    | agg _ _ _ => cases hr1
end Go.Ab
