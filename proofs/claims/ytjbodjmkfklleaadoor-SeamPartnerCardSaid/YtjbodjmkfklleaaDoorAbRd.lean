/- The abstract interpreter: how a row's arguments are read. -/
import Derived.Test.YtjbodjmkfklleaaDoorAbW2
import Derived.ChangeOld
import Derived.WideShapes
import Derived.ChangeShapes
import Derived.ChangeAt
set_option linter.unusedVariables false
set_option linter.unusedSimpArgs false
set_option linter.unusedSectionVars false

namespace Go.Ab
open Go.RowKit (Below)

/-- What cells are read as. -/
def CR (w : World) (cs : List Value) (as : List AV) : Prop := cs.length = as.length ∧ ∀ (j : Nat) (a : AV) (v : Value), as[j]? = some a → cs[j]? = some v → v.oneCell' = true ∧ RepP w (fun b => b < w.heap.size) a v
theorem CR.one {w : World} {v : Value} {a : AV} (h1 : v.oneCell' = true) (h : RepP w (fun b => b < w.heap.size) a v) : CR w [v] [a] := by
  refine ⟨rfl, fun j a' v' ha hv => ?_⟩
  cases j with
  | zero => simp at ha hv; subst ha hv; exact ⟨h1, h⟩
  | succ j => simp at ha
theorem CR.append {w : World} {cs cs' : List Value} {as as' : List AV} (h : CR w cs as) (h' : CR w cs' as') : CR w (cs ++ cs') (as ++ as') := by
  refine ⟨by simp [h.1, h'.1], fun j a v ha hv => ?_⟩
  by_cases hj : j < as.length
  · rw [List.getElem?_append_left hj] at ha
    rw [List.getElem?_append_left (by rw [h.1]; exact hj)] at hv
    exact h.2 j a v ha hv
  · rw [List.getElem?_append_right (by omega)] at ha
    rw [List.getElem?_append_right (by rw [h.1]; omega), h.1] at hv
    exact h'.2 _ a v ha hv
structure Reads (P : Program) (t : TypeId) {α : Type} (f : α → List AV) (q : α → Prop) : Prop where
  rd : ∀ {H : Type} {enc : TypeId × Value → H} {w : World} {base : Nat} {spare : Nat → Bool} {held : Bool} {fuel : Nat} {cs : List Value} {x : DataW H × List MemPlace}, DataW.trod enc P w base spare held fuel t cs = some x → ∃ a, CR w cs (f a) ∧ q a
section
variable {P : Program} {t : TypeId}
theorem reads_int {k : IntKind} (h : P.underlying t = some (.int k)) : Reads P t (fun n : Int => [.sc (.int k n)]) (fun n => (Lit.int k n).wf = true) := by
  constructor
  intro H enc w base spare held fuel cs x hx
  obtain ⟨n, rfl, _, hw⟩ := DataW.trod_int h hx
  exact ⟨n, .one rfl (.sc _), hw⟩
theorem Reads.map {α β : Type} {f : α → List AV} {q : α → Prop} {g : β → List AV} {q' : β → Prop} (h : Reads P t f q) (m : α → β) (hf : ∀ a, g (m a) = f a) (hq : ∀ a, q a → q' (m a)) : Reads P t g q' := by
  constructor
  intro H enc w base spare held fuel cs x hx
  obtain ⟨a, h1, h2⟩ := h.rd hx
  exact ⟨m a, by rw [hf]; exact h1, hq a h2⟩
/-- Fields, from cell o on. -/
structure ReadsF (P : Program) (fs : List Field) (o N : Nat) {α : Type} (f : α → List AV) (q : α → Prop) : Prop where
  rd : ∀ {H : Type} {enc : TypeId × Value → H} {w : World} {base : Nat} {spare : Nat → Bool} {held : Bool} {n : Nat} {cs : List Value}, cs.length = N →
    (∀ (i : Nat) (fd : Field), fs[i]? = some fd → ∃ y, DataW.trod enc P w base spare held n fd.type ((cs.drop fd.offset).take (P.cellsOf fd.type)) = some y) → ∃ a, CR w (cs.drop o) (f a) ∧ q a
/-! Arguments. -/
section
variable {H : Type} {enc : TypeId × Value → H} {w : World} {base b0 : Nat} {spare : Nat → Bool} {held : Bool} {v : Value} {d : DataW H} {p : List MemPlace} {α : Type} {f : α → List AV} {q : α → Prop}
theorem arg_one {g : α → AV} (h : Reads P t f q) (hg : ∀ a, f a = [g a]) (hv : v.cells.toList = [v]) (hd : DataW.Trod enc P w base spare held t v d p) : ∃ a, RepP w (fun b => b < w.heap.size) (g a) v ∧ q a := by
  obtain ⟨fuel, hf⟩ := hd
  obtain ⟨a, h1, h2⟩ := h.rd hf
  rw [hv, hg] at h1
  exact ⟨a, (h1.2 0 _ _ rfl rfl).2, h2⟩
theorem arg_int {k : IntKind} {r : Reach} (hu : P.underlying t = some (.int k)) (hval : Value.okWide P w r b0 t v) (hd : DataW.Trod enc P w base spare held t v d p) : ∃ n : Int, RepP w (fun b => b < w.heap.size) (.sc (.int k n)) v ∧ (Lit.int k n).wf = true := by
  obtain ⟨n, rfl⟩ := WideShapes.okWide_int hu hval
  exact arg_one (reads_int hu) (fun _ => rfl) rfl hd
end
end
theorem wf_u32 {n : Int} (h : (Lit.int .u32 n).wf = true) : InU32 n := by
  simp only [Lit.wf, Bool.and_eq_true, decide_eq_true_eq] at h
  have e1 : IntKind.u32.min = 0 := by rfl
  have e2 : IntKind.u32.max = 4294967295 := by rfl
  rw [e1, e2] at h
  exact h
/-- A law that answers true, as the machine runs it. -/
theorem law_runs {P : Program} {X : CallRel} (hX : RSound P X) (hm : P.follows .mixedOrders = true) {f : FuncId} {as : List AV} (h : Ret P X f as (boo true)) {w : World} {vs : List Value} (hl : vs.length = as.length)
    (hv : ∀ (j : Nat) (a : AV) (v : Value), as[j]? = some a → vs[j]? = some v → RepP w (fun b => b < w.heap.size) a v) : Calls P f vs.toArray w fun e w' => e = .returned (.bool true) ∧ Below w.heap.size w w' := by
  obtain ⟨_, hc, _⟩ := ret_sound hX hm f as _ h
  refine (hc w (fun b => b < w.heap.size) vs (fun _ h => h) ⟨hl, hv⟩).mono ?_
  rintro e w' ⟨v, rfl, hB, bs, rs, ws, _, hr, hr1, rfl⟩
  refine ⟨?_, hB⟩
  cases hr with
  | nil => cases hr1
  | cons ha hr =>
    cases hr with
    | nil =>
      simp only at hr1
      subst hr1
      cases ha with
      | pure h => cases h; rfl
    | cons _ _ => cases hr1
    | agg _ _ _ => cases hr1
  | agg _ _ hr =>
    cases hr with
    | nil => cases hr1
    | cons _ _ => cases hr1
    | agg _ _ _ => cases hr1
end Go.Ab
