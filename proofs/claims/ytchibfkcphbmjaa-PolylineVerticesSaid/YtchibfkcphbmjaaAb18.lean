/- The abstract interpreter: calls. -/
import Derived.Test.YtchibfkcphbmjaaAb17
set_option linter.unusedVariables false
set_option linter.unusedSimpArgs false
set_option linter.unusedSectionVars false

namespace Go.Ab
open Go.RowKit (Below)

/-- The result of a call, by what was there before (h blocks): the blocks that are handed over. -/
inductive RR (w : World) (ok : Nat → Prop) (h : Nat) : AV → Value → List Nat → Prop
  | pure {a : AV} {v : Value} (hp : RepP w ok a v) : RR w ok h a v []
  | frNil (sz : Nat) : RR w ok h (.fr sz []) (.slice none 0 0) []
  | fr (sz : Nat) (xs : List (List AV)) (b o cap : Nat) (c : Array Value) (t : TypeId) (hb : w.heap[b]? = some (.cells c t (0, 0))) (hh : h ≤ b) (hl : xs.length ≤ cap) (hs : o + cap * sz ≤ c.size)
      (hc : Cells w ok c o sz xs) : RR w ok h (.fr sz xs) (.slice (some ⟨b, o, none⟩) xs.length cap) [b]

inductive RRs (w : World) (ok : Nat → Prop) (h : Nat) : List AV → List Value → List Nat → Prop
  | nil : RRs w ok h [] [] []
  | cons {a : AV} {v : Value} {as : List AV} {vs : List Value} {x y : List Nat} (ha : RR w ok h a v x) (hr : RRs w ok h as vs y) : RRs w ok h (a :: as) (v :: vs) (x ++ y)
  | agg {cs : List AV} {cv : List Value} {as : List AV} {vs : List Value} {x y : List Nat} (h1 : ∀ v, v ∈ cv → v.oneCell' = true) (ha : RRs w ok h cs cv x) (hr : RRs w ok h as vs y) :
      RRs w ok h (.agg cs :: as) (.agg cv.toArray :: vs) (x ++ y)

/-- What a call's result is. -/
def ResOk (w w' : World) (ok : Nat → Prop) (r : AV) (v : Value) : Prop :=
  ∃ bs rs vs, bs.Nodup ∧ RRs w' (fun b => (ok b ∨ (w.heap.size ≤ b ∧ b < w'.heap.size)) ∧ b ∉ bs) w.heap.size rs vs bs ∧ r = (match rs with | [a] => a | _ => .tup rs) ∧ v = (match vs with | [a] => a | _ => .tuple vs.toArray)

def Enters (P : Program) (f : FuncId) : Prop := ∃ fn c, P.funcs[f]? = some fn ∧ fn.body = some c ∧ (fn.name == "runtime.NumGoroutine") = false

def RepsP (w : World) (ok : Nat → Prop) (as : List AV) (vs : List Value) : Prop := vs.length = as.length ∧ ∀ (j : Nat) (a : AV) (v : Value), as[j]? = some a → vs[j]? = some v → RepP w ok a v

def RSound (P : Program) (R : CallRel) : Prop := ∀ f as r, R f as r → Enters P f ∧ ∀ (w : World) (ok : Nat → Prop) (vs : List Value), (∀ b, ok b → b < w.heap.size) → RepsP w ok as vs →
  Calls P f vs.toArray w fun e w' => ∃ v, e = .returned v ∧ Below w.heap.size w w' ∧ ResOk w w' ok r v

theorem below_le {E : Env} {w' : World} (hlt : ∀ b, E.ok b → b < E.w.heap.size) (hB : Below E.w.heap.size E.w w') : E.Le { E with w := w' } where
  ok := fun _ h => h
  blk := fun b h => hB.block b (hlt b h)
  al := fun _ h => ⟨h, rfl⟩
  sz := fun b c t f h => ⟨c, f, (hB.block b (lt_of_blk h)).trans h, rfl⟩

theorem mut_fact {E : Env} {base : Nat} {mem : List (Nat × Arr)} (hM : MemRel E base mem) {i : Nat} {arr : Arr} {b o z : Nat} (hg : get mem i = some arr) (hm : arr.isMut = true) (hl : E.loc i = some (b, o, z)) :
    ¬ E.ok b ∧ b < E.w.heap.size ∧ base ≤ b := by
  have hr := (hM.arr i arr hg).2
  cases arr with
  | row sz xs => simp only [ArrRel, hl] at hr; obtain ⟨_, _, hb, h1, h, _⟩ := hr; exact ⟨h, lt_of_blk hb, h1⟩
  | box cs => obtain ⟨b2, c2, t2, h2, hb, h1, h, _⟩ := hr; rw [hl] at h2; obtain ⟨rfl, -⟩ := Prod.mk.inj (Option.some.inj h2); exact ⟨h, lt_of_blk hb, h1⟩
  | frz _ _ => cases hm
  | dead => cases hm

/-- Behind a call: what the callee made may be read. -/
def Env.after (E : Env) (w' : World) (bs : List Nat) : Env := { E with w := w', ok := fun b => (E.ok b ∨ (E.w.heap.size ≤ b ∧ b < w'.heap.size)) ∧ b ∉ bs }

theorem after_env {E : Env} {w0 w' : World} {okb : Nat → Prop} {mem : List (Nat × Arr)} (hF : Frm E w0 okb) (hM : MemRel E w0.heap.size mem) (hB : Below E.w.heap.size E.w w') {bs : List Nat} (hbs : ∀ b, b ∈ bs → E.w.heap.size ≤ b) :
    E.Le (E.after w' bs) ∧ Frm (E.after w' bs) w0 okb ∧ MemRel (E.after w' bs) w0.heap.size mem := by
  have hle : E.Le (E.after w' bs) := {
    ok := fun b h => ⟨.inl h, fun hb => by have := hbs b hb; have := hF.lt b h; omega⟩
    blk := fun b h => hB.block b (hF.lt b h)
    al := fun _ h => ⟨h, rfl⟩
    sz := fun b c t f h => ⟨c, f, (hB.block b (lt_of_blk h)).trans h, rfl⟩ }
  refine ⟨hle, ⟨hF.below.trans (hB.mono hF.below.size), fun b hb h => ?_, fun b h => ?_⟩, hM.mono hle fun i arr hg hm b o z hl => ?_⟩
  · rcases h.1 with h1 | ⟨h1, _⟩
    · exact hF.okb b hb h1
    · have := hF.below.size; omega
  · rcases h.1 with h1 | ⟨_, h1⟩
    · exact Nat.lt_of_lt_of_le (hF.lt b h1) hB.size
    · exact h1
  · obtain ⟨h1, h2, h3⟩ := mut_fact hM hg hm hl
    refine ⟨hB.block b h2, ?_⟩
    rintro ⟨h4 | ⟨h4, _⟩, _⟩
    · exact h1 h4
    · omega

/-- A block that is handed over, under a new number. -/
theorem import_one {E : Env} {w0 : World} {okb : Nat → Prop} {mem : List (Nat × Arr)} {nx : Nat} {a : AV} {v : Value} {h : Nat} {bs : List Nat} (hF : Frm E w0 okb) (hM : MemRel E w0.heap.size mem) (hid : ∀ id, nx ≤ id → id < (impCell nx a).2.2 → ¬ E.al id)
    (hr : RR E.w E.ok h a v bs) (hno : ∀ b, b ∈ bs → ¬ E.ok b) (hbase : w0.heap.size ≤ h) (hfar : ∀ b, b ∈ bs → ∀ i arr b' o z, get mem i = some arr → arr.isMut = true → E.loc i = some (b', o, z) → b' ≠ b) :
    ∃ E', E'.w = E.w ∧ E'.ok = E.ok ∧ Stepped E w0 okb mem nx ⟨(impCell nx a).1, (impCell nx a).2.1, (impCell nx a).2.2, []⟩ v E' ∧
      ∀ i arr b' o z, get ((impCell nx a).2.1 ++ mem) i = some arr → arr.isMut = true → E'.loc i = some (b', o, z) → b' ∈ bs ∨ ∃ arr' o' z', get mem i = some arr' ∧ arr'.isMut = true ∧ E.loc i = some (b', o', z') := by
  cases hr with
  | pure hp =>
    have e : impCell nx a = (a, [], nx) := by cases a <;> first | rfl | cases hp
    rw [e]
    exact ⟨E, rfl, rfl, .same hF hM (.pure hp), fun i arr b' o z hg hm hl => .inr ⟨arr, o, z, hg, hm, hl⟩⟩
  | frNil sz =>
    have hid' : ¬ E.al nx := hid nx (Nat.le_refl _) (by simp [impCell])
    have hne : ∀ i, E.al i → i ≠ nx := by rintro i hi rfl; exact hid' hi
    refine ⟨E.nilNew nx, rfl, rfl, nil_new hF hM hid', fun i arr b' o z hg hm hl => ?_⟩
    simp only [impCell, List.cons_append, List.nil_append, get_cons] at hg
    split at hg
    · rename_i e
      subst e
      have : (E.nilNew nx).loc nx = none := if_pos rfl
      rw [this] at hl; cases hl
    · refine .inr ⟨arr, o, z, hg, hm, ?_⟩
      have : (E.nilNew nx).loc i = E.loc i := if_neg (hne i (hM.arr i arr hg).1)
      rwa [this] at hl
  | fr sz xs b o cap c t hb hh hl hs hc =>
    have hid' : ¬ E.al nx := hid nx (Nat.le_refl _) (by simp [impCell])
    have hne : ∀ i, E.al i → i ≠ nx := by rintro i hi rfl; exact hid' hi
    obtain ⟨hle, hM'⟩ := relabel (E' := E.takes nx b o sz) hM rfl rfl hid' (fun i hi => if_neg hi) (fun i h => .inl h)
    have hl2 : (E.takes nx b o sz).loc nx = some (b, o, sz) := if_pos rfl
    refine ⟨E.takes nx b o sz, rfl, rfl, ⟨hle, fun id => ⟨fun h => h.elim .inl (fun e => .inr (by simp only [impCell]; omega)), fun h => h.elim .inl (fun e => .inr (by simp only [impCell] at e; omega))⟩, by simp [impCell], ⟨hF.below, hF.okb, hF.lt⟩, ?_, ?_⟩, ?_⟩
    · refine hM'.cons (.inr rfl) ?_ (fun _ id' arr' b2 o2 z2 o3 z3 hne' hg' hm h2 h3 => ?_)
      · simp only [ArrRel, hl2]
        exact ⟨c, t, hb, by omega, hno b (by simp), by have := Nat.mul_le_mul_right sz hl; omega, trivial, hc⟩
      · rw [hl2] at h2
        obtain ⟨rfl, -⟩ := Prod.mk.inj (Option.some.inj h2)
        have : (E.takes nx b o sz).loc id' = E.loc id' := if_neg hne'
        rw [this] at h3
        exact hfar b (by simp) id' arr' b o3 z3 hg' hm h3 rfl
    · have := Rep.own (E := E.takes nx b o sz) nx 0 xs.length b o sz cap (.inr rfl) hl2 hl ⟨c, t, _, hb, by simpa using hs⟩
      simpa [impCell] using this
    · intro i arr b' o' z' hg hm hl'
      simp only [impCell, List.cons_append, List.nil_append, get_cons] at hg
      split at hg
      · rename_i e
        subst e
        rw [hl2] at hl'
        obtain ⟨rfl, -⟩ := Prod.mk.inj (Option.some.inj hl')
        exact .inl (by simp)
      · refine .inr ⟨arr, o', z', hg, hm, ?_⟩
        have : (E.takes nx b o sz).loc i = E.loc i := if_neg (hne i (hM.arr i arr hg).1)
        rwa [this] at hl'
end Go.Ab
