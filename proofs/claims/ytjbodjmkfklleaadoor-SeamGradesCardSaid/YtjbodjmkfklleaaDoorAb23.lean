/- The abstract interpreter: calls. -/
import Derived.Test.YtjbodjmkfklleaaDoorAb17
import Derived.Deep.Draws
set_option linter.unusedVariables false
set_option linter.unusedSimpArgs false
set_option linter.unusedSectionVars false

section
namespace Go.Ab
open Go.RowKit (Below)

/-- The result of a call, by what was there before (h blocks): the blocks that are handed over. -/
inductive RR (w : World) (ok : Nat → Prop) (h : Nat) : AV → Value → List Nat → Prop
  | pure {a : AV} {v : Value} (hp : RepP w ok a v) : RR w ok h a v []
  | frNil (sz : Nat) : RR w ok h (.fr sz []) (.slice none 0 0) []
  | fr (sz : Nat) (xs : List (List AV)) (b o cap : Nat) (c : Array Value) (t : TypeId) (hb : w.heap[b]? = some (.cells c t (0, 0))) (hh : h ≤ b) (hl : xs.length ≤ cap) (hs : o + cap * sz ≤ c.size)
      (hc : Cells w ok c o sz xs) : RR w ok h (.fr sz xs) (.slice (some ⟨b, o, none⟩) xs.length cap) [b]

inductive RRs (w : World) (ok : Nat → Prop) (h : Nat) : List AV → List Value → List Nat → Prop
  | nil : RRs w ok h [] [] []
  | cons {a : AV} {v : Value} {as : List AV} {vs : List Value} {x y : List Nat} (ha : RR w ok h a v x) (hr : RRs w ok h as vs y) : RRs w ok h (a :: as) (v :: vs) (x ++ y)
  | agg {cs : List AV} {cv : List Value} {as : List AV} {vs : List Value} {x y : List Nat} (h1 : ∀ v, v ∈ cv → v.oneCell' = true) (ha : RRs w ok h cs cv x) (hr : RRs w ok h as vs y) :
      RRs w ok h (.agg cs :: as) (.agg cv.toArray :: vs) (x ++ y)

/-- What a call's result is. -/
def ResOk (w w' : World) (ok : Nat → Prop) (r : AV) (v : Value) : Prop :=
  ∃ bs rs vs, bs.Nodup ∧ RRs w' (fun b => (ok b ∨ (w.heap.size ≤ b ∧ b < w'.heap.size)) ∧ b ∉ bs) w.heap.size rs vs bs ∧ r = (match rs with | [a] => a | _ => .tup rs) ∧ v = (match vs with | [a] => a | _ => .tuple vs.toArray)

def Enters (P : Program) (f : FuncId) : Prop := ∃ fn c, P.funcs[f]? = some fn ∧ fn.body = some c ∧ (fn.name == "runtime.NumGoroutine") = false

def RepsP (w : World) (ok : Nat → Prop) (as : List AV) (vs : List Value) : Prop := vs.length = as.length ∧ ∀ (j : Nat) (a : AV) (v : Value), as[j]? = some a → vs[j]? = some v → RepP w ok a v

/-- f turns n elements of sz cells round, in place. -/
def Reverses (P : Program) (f : FuncId) (sz : Nat) : Prop := ∀ (b o n cap : Nat) (c : Array Value) (t : TypeId) (w : World), 0 < n → n ≤ 9223372036854775807 → n ≤ cap → w.heap[b]? = some (.cells c t (0, 0)) → o + n * sz ≤ c.size →
  (∀ k v, o ≤ k → k < o + n * sz → c[k]? = some v → v.oneCell' = true) →
  Calls P f #[.slice (some ⟨b, o, none⟩) n cap] w fun e w' => e = .returned (.tuple #[]) ∧ ∃ q c', w' = (w.drewN q).setRow b c' ∧ c'.size = c.size ∧
    (∀ i j, i < n → j < sz → c'[o + i * sz + j]? = c[o + (n - 1 - i) * sz + j]?) ∧ (∀ k, k < o ∨ o + n * sz ≤ k → c'[k]? = c[k]?)

/-- What it means that f hands back r. -/
def Means (P : Program) (f : FuncId) (as : List AV) (r : AV) : Prop := Enters P f ∧ (∀ (w : World) (ok : Nat → Prop) (vs : List Value), (∀ b, ok b → b < w.heap.size) → RepsP w ok as vs →
  Calls P f vs.toArray w fun e w' => ∃ v, e = .returned v ∧ Below w.heap.size w w' ∧ ResOk w w' ok r v) ∧ ∀ sz xs, as = [.fr sz xs] → r = .fr sz xs.reverse ∧ Reverses P f sz

def RSound (P : Program) (R : CallRel) : Prop := ∀ f as r, R f as r → Means P f as r

theorem below_le {E : Env} {w' : World} (hlt : ∀ b, E.ok b → b < E.w.heap.size) (hB : Below E.w.heap.size E.w w') : E.Le { E with w := w' } where
  ok := fun _ h => h
  blk := fun b h => hB.block b (hlt b h)
  al := fun _ h => ⟨h, rfl⟩
  sz := fun b c t f h => ⟨c, f, (hB.block b (lt_of_blk h)).trans h, rfl⟩

theorem mut_fact {E : Env} {base : Nat} {mem : List (Nat × Arr)} (hM : MemRel E base mem) {i : Nat} {arr : Arr} {b o z : Nat} (hg : get mem i = some arr) (hm : arr.isMut = true) (hl : E.loc i = some (b, o, z)) :
    ¬ E.ok b ∧ b < E.w.heap.size ∧ base ≤ b := by
  have hr := (hM.arr i arr hg).2
  cases arr with
  | row sz xs => simp only [ArrRel, hl] at hr; obtain ⟨_, _, hb, h1, h, _⟩ := hr; exact ⟨h, lt_of_blk hb, h1⟩
  | box cs => obtain ⟨b2, c2, t2, h2, hb, h1, h, _⟩ := hr; rw [hl] at h2; obtain ⟨rfl, -⟩ := Prod.mk.inj (Option.some.inj h2); exact ⟨h, lt_of_blk hb, h1⟩
  | frz _ _ => cases hm
  | dead => cases hm

/-- Behind a call: what the callee made may be read. -/
def Env.after (E : Env) (w' : World) (bs : List Nat) : Env := { E with w := w', ok := fun b => (E.ok b ∨ (E.w.heap.size ≤ b ∧ b < w'.heap.size)) ∧ b ∉ bs }

theorem after_env {E : Env} {w0 w' : World} {okb : Nat → Prop} {mem : List (Nat × Arr)} (hF : Frm E w0 okb) (hM : MemRel E w0.heap.size mem) (hB : Below E.w.heap.size E.w w') {bs : List Nat} (hbs : ∀ b, b ∈ bs → E.w.heap.size ≤ b) :
    E.Le (E.after w' bs) ∧ Frm (E.after w' bs) w0 okb ∧ MemRel (E.after w' bs) w0.heap.size mem := by
  have hle : E.Le (E.after w' bs) := {
    ok := fun b h => ⟨.inl h, fun hb => by have := hbs b hb; have := hF.lt b h; omega⟩
    blk := fun b h => hB.block b (hF.lt b h)
    al := fun _ h => ⟨h, rfl⟩
    sz := fun b c t f h => ⟨c, f, (hB.block b (lt_of_blk h)).trans h, rfl⟩ }
  refine ⟨hle, ⟨hF.below.trans (hB.mono hF.below.size), fun b hb h => ?_, fun b h => ?_⟩, hM.mono hle fun i arr hg hm b o z hl => ?_⟩
  · rcases h.1 with h1 | ⟨h1, _⟩
    · exact hF.okb b hb h1
    · have := hF.below.size; omega
  · rcases h.1 with h1 | ⟨_, h1⟩
    · exact Nat.lt_of_lt_of_le (hF.lt b h1) hB.size
    · exact h1
  · obtain ⟨h1, h2, h3⟩ := mut_fact hM hg hm hl
    refine ⟨hB.block b h2, ?_⟩
    rintro ⟨h4 | ⟨h4, _⟩, _⟩
    · exact h1 h4
    · omega

/-- A block that is handed over, under a new number. -/
theorem import_one {E : Env} {w0 : World} {okb : Nat → Prop} {mem : List (Nat × Arr)} {nx : Nat} {a : AV} {v : Value} {h : Nat} {bs : List Nat} (hF : Frm E w0 okb) (hM : MemRel E w0.heap.size mem) (hid : ∀ id, nx ≤ id → id < (impCell nx a).2.2 → ¬ E.al id)
    (hr : RR E.w E.ok h a v bs) (hno : ∀ b, b ∈ bs → ¬ E.ok b) (hbase : w0.heap.size ≤ h) (hfar : ∀ b, b ∈ bs → ∀ i arr b' o z, get mem i = some arr → arr.isMut = true → E.loc i = some (b', o, z) → b' ≠ b) :
    ∃ E', E'.w = E.w ∧ E'.ok = E.ok ∧ Stepped E w0 okb mem nx ⟨(impCell nx a).1, (impCell nx a).2.1, (impCell nx a).2.2, []⟩ v E' ∧
      ∀ i arr b' o z, get ((impCell nx a).2.1 ++ mem) i = some arr → arr.isMut = true → E'.loc i = some (b', o, z) → b' ∈ bs ∨ ∃ arr' o' z', get mem i = some arr' ∧ arr'.isMut = true ∧ E.loc i = some (b', o', z') := by
  cases hr with
  | pure hp =>
    have e : impCell nx a = (a, [], nx) := by cases a <;> first | rfl | cases hp
    rw [e]
    exact ⟨E, rfl, rfl, .same hF hM (.pure hp), fun i arr b' o z hg hm hl => .inr ⟨arr, o, z, hg, hm, hl⟩⟩
  | frNil sz =>
    have hid' : ¬ E.al nx := hid nx (Nat.le_refl _) (by simp [impCell])
    have hne : ∀ i, E.al i → i ≠ nx := by rintro i hi rfl; exact hid' hi
    refine ⟨E.nilNew nx, rfl, rfl, nil_new hF hM hid', fun i arr b' o z hg hm hl => ?_⟩
    simp only [impCell, List.cons_append, List.nil_append, get_cons] at hg
    split at hg
    · rename_i e
      subst e
      have : (E.nilNew nx).loc nx = none := if_pos rfl
      rw [this] at hl; cases hl
    · refine .inr ⟨arr, o, z, hg, hm, ?_⟩
      have : (E.nilNew nx).loc i = E.loc i := if_neg (hne i (hM.arr i arr hg).1)
      rwa [this] at hl
  | fr sz xs b o cap c t hb hh hl hs hc =>
    have hid' : ¬ E.al nx := hid nx (Nat.le_refl _) (by simp [impCell])
    have hne : ∀ i, E.al i → i ≠ nx := by rintro i hi rfl; exact hid' hi
    obtain ⟨hle, hM'⟩ := relabel (E' := E.takes nx b o sz) hM rfl rfl hid' (fun i hi => if_neg hi) (fun i h => .inl h)
    have hl2 : (E.takes nx b o sz).loc nx = some (b, o, sz) := if_pos rfl
    refine ⟨E.takes nx b o sz, rfl, rfl, ⟨hle, fun id => ⟨fun h => h.elim .inl (fun e => .inr (by simp only [impCell]; omega)), fun h => h.elim .inl (fun e => .inr (by simp only [impCell] at e; omega))⟩, by simp [impCell], ⟨hF.below, hF.okb, hF.lt⟩, ?_, ?_⟩, ?_⟩
    · refine hM'.cons (.inr rfl) ?_ (fun _ id' arr' b2 o2 z2 o3 z3 hne' hg' hm h2 h3 => ?_)
      · simp only [ArrRel, hl2]
        exact ⟨c, t, hb, by omega, hno b (by simp), by have := Nat.mul_le_mul_right sz hl; omega, trivial, hc⟩
      · rw [hl2] at h2
        obtain ⟨rfl, -⟩ := Prod.mk.inj (Option.some.inj h2)
        have : (E.takes nx b o sz).loc id' = E.loc id' := if_neg hne'
        rw [this] at h3
        exact hfar b (by simp) id' arr' b o3 z3 hg' hm h3 rfl
    · have := Rep.own (E := E.takes nx b o sz) nx 0 xs.length b o sz cap (.inr rfl) hl2 hl ⟨c, t, _, hb, by simpa using hs⟩
      simpa [impCell] using this
    · intro i arr b' o' z' hg hm hl'
      simp only [impCell, List.cons_append, List.nil_append, get_cons] at hg
      split at hg
      · rename_i e
        subst e
        rw [hl2] at hl'
        obtain ⟨rfl, -⟩ := Prod.mk.inj (Option.some.inj hl')
        exact .inl (by simp)
      · refine .inr ⟨arr, o', z', hg, hm, ?_⟩
        have : (E.takes nx b o sz).loc i = E.loc i := if_neg (hne i (hM.arr i arr hg).1)
        rwa [this] at hl'
end Go.Ab
end

section
namespace Go.Ab
open Go.RowKit (Below)

/-- What an import leaves: the old states' facts, and how the new numbers lie. -/
structure Imported (E : Env) (w0 : World) (okb : Nat → Prop) (mem : List (Nat × Arr)) (nx : Nat) (d : List (Nat × Arr)) (nx' : Nat) (bs : List Nat) (E' : Env) : Prop where
  w : E'.w = E.w
  ok : E'.ok = E.ok
  le : E.Le E'
  al : ∀ id, E'.al id ↔ E.al id ∨ (nx ≤ id ∧ id < nx')
  nx : nx ≤ nx'
  frm : Frm E' w0 okb
  mm : MemRel E' w0.heap.size (d ++ mem)
  far : ∀ i arr b' o z, get (d ++ mem) i = some arr → arr.isMut = true → E'.loc i = some (b', o, z) → b' ∈ bs ∨ ∃ arr' o' z', get mem i = some arr' ∧ arr'.isMut = true ∧ E.loc i = some (b', o', z')

theorem Imported.refl {E : Env} {w0 : World} {okb : Nat → Prop} {mem : List (Nat × Arr)} {nx : Nat} (hF : Frm E w0 okb) (hM : MemRel E w0.heap.size mem) : Imported E w0 okb mem nx [] nx [] E :=
  ⟨rfl, rfl, .refl E, fun id => ⟨.inl, fun h => h.elim (fun h => h) (fun h => by omega)⟩, Nat.le_refl _, hF, hM, fun i arr b' o z hg hm hl => .inr ⟨arr, o, z, hg, hm, hl⟩⟩

theorem Imported.trans {A B C : Env} {w0 : World} {okb : Nat → Prop} {mem d1 d2 : List (Nat × Arr)} {n0 n1 n2 : Nat} {x y : List Nat} (h : Imported A w0 okb mem n0 d1 n1 x B) (k : Imported B w0 okb (d1 ++ mem) n1 d2 n2 y C) :
    Imported A w0 okb mem n0 (d2 ++ d1) n2 (x ++ y) C where
  w := k.w.trans h.w
  ok := k.ok.trans h.ok
  le := h.le.trans k.le
  al id := by
    rw [k.al id, h.al id]
    have := h.nx; have := k.nx
    constructor
    · rintro ((h | h) | h)
      · exact .inl h
      · exact .inr (by omega)
      · exact .inr (by omega)
    · rintro (h | h)
      · exact .inl (.inl h)
      · by_cases hc : id < n1
        · exact .inl (.inr (by omega))
        · exact .inr (by omega)
  nx := Nat.le_trans h.nx k.nx
  frm := k.frm
  mm := by rw [List.append_assoc]; exact k.mm
  far i arr b' o z hg hm hl := by
    rw [List.append_assoc] at hg
    rcases k.far i arr b' o z hg hm hl with h1 | ⟨arr', o', z', h1, h2, h3⟩
    · exact .inl (by simp [h1])
    · rcases h.far i arr' b' o' z' h1 h2 h3 with h4 | h4
      · exact .inl (by simp [h4])
      · exact .inr h4

theorem RR.mono {w w' : World} {ok ok' : Nat → Prop} {h : Nat} {a : AV} {v : Value} {bs : List Nat} (hw : w' = w) (hok : ok' = ok) (hr : RR w ok h a v bs) : RR w' ok' h a v bs := by rw [hw, hok]; exact hr

theorem impCell_sound {E : Env} {w0 : World} {okb : Nat → Prop} {mem : List (Nat × Arr)} {nx : Nat} {a : AV} {v : Value} {h : Nat} {bs : List Nat} (hF : Frm E w0 okb) (hM : MemRel E w0.heap.size mem) (hid : ∀ id, nx ≤ id → id < (impCell nx a).2.2 → ¬ E.al id)
    (hr : RR E.w E.ok h a v bs) (hno : ∀ b, b ∈ bs → ¬ E.ok b) (hbase : w0.heap.size ≤ h) (hfar : ∀ b, b ∈ bs → ∀ i arr b' o z, get mem i = some arr → arr.isMut = true → E.loc i = some (b', o, z) → b' ≠ b) :
    ∃ E', Imported E w0 okb mem nx (impCell nx a).2.1 (impCell nx a).2.2 bs E' ∧ Rep E' (impCell nx a).1 v := by
  obtain ⟨E', h1, h2, h3, h4⟩ := import_one hF hM hid hr hno hbase hfar
  exact ⟨E', ⟨h1, h2, h3.le, h3.al, h3.nx, h3.frm, h3.mem, h4⟩, h3.rep⟩

theorem impCell_le (n : Nat) (a : AV) : n ≤ (impCell n a).2.2 := by cases a <;> simp [impCell]
theorem impCells_le : ∀ (cs : List AV) (n : Nat), n ≤ (impCells n cs).2.2
  | [], n => Nat.le_refl _
  | a :: r, n => by
    have h1 := impCell_le n a
    have h2 := impCells_le r (impCell n a).2.2
    simp only [impCells]
    omega
theorem imp1_le (n : Nat) (a : AV) : n ≤ (imp1 n a).2.2 := by
  cases a <;> first | exact impCell_le n _ | exact impCells_le _ n
theorem imps_le : ∀ (cs : List AV) (n : Nat), n ≤ (imps n cs).2.2
  | [], n => Nat.le_refl _
  | a :: r, n => by
    have h1 := imp1_le n a
    have h2 := imps_le r (imp1 n a).2.2
    simp only [imps]
    omega

/-- The cells of a struct that is handed back. -/
theorem impCells_sound {w0 : World} {okb : Nat → Prop} {h : Nat} (hbase : w0.heap.size ≤ h) : ∀ {cs : List AV} {cv : List Value} {bs : List Nat} {E : Env} {mem : List (Nat × Arr)} {nx : Nat}, Frm E w0 okb → MemRel E w0.heap.size mem →
    (∀ id, nx ≤ id → id < (impCells nx cs).2.2 → ¬ E.al id) → RRs E.w E.ok h cs cv bs → (∀ v, v ∈ cv → v.oneCell' = true) → bs.Nodup → (∀ b, b ∈ bs → ¬ E.ok b) →
    (∀ b, b ∈ bs → ∀ i arr b' o z, get mem i = some arr → arr.isMut = true → E.loc i = some (b', o, z) → b' ≠ b) →
    ∃ E', Imported E w0 okb mem nx (impCells nx cs).2.1 (impCells nx cs).2.2 bs E' ∧ Reps E' (impCells nx cs).1 cv := by
  intro cs
  induction cs with
  | nil =>
    intro cv bs E mem nx hF hM hid hr h1 hnd hno hfar
    cases hr
    exact ⟨E, .refl hF hM, rfl, by simp [impCells]⟩
  | cons a r ih =>
    intro cv bs E mem nx hF hM hid hr h1 hnd hno hfar
    cases hr with
    | @cons _ v _ vs x y ha hr =>
      have hl1 := impCell_le nx a
      have hl2 := impCells_le r (impCell nx a).2.2
      obtain ⟨E1, i1, r1⟩ := impCell_sound hF hM (fun id q1 q2 => hid id q1 (by simp only [impCells]; omega)) ha (fun b hb => hno b (by simp [hb])) hbase (fun b hb => hfar b (by simp [hb]))
      rw [List.nodup_append] at hnd
      obtain ⟨E2, i2, r2⟩ := ih (E := E1) (mem := (impCell nx a).2.1 ++ mem) (nx := (impCell nx a).2.2) i1.frm i1.mm (fun id q1 q2 => by
        rw [i1.al id]
        rintro (q | q)
        · exact hid id (by omega) (by simp only [impCells]; omega) q
        · omega) (by rw [i1.w, i1.ok]; exact hr) (fun v hv => h1 v (List.mem_cons_of_mem _ hv)) hnd.2.1 (fun b hb => by rw [i1.ok]; exact hno b (by simp [hb])) (fun b hb i arr b' o z hg hm hl e => by
          subst e
          rcases i1.far i arr b' o z hg hm hl with q | ⟨arr', o', z', q1, q2, q3⟩
          · exact hnd.2.2 b' q b' hb rfl
          · exact hfar b' (by simp [hb]) i arr' b' o' z' q1 q2 q3 rfl)
      refine ⟨E2, i1.trans i2, by simp [impCells, r2.1], fun j c u hc hu => ?_⟩
      cases j with
      | zero => simp [impCells] at hc hu; subst hc hu; exact r1.mono i2.le
      | succ j => exact r2.2 j c u (by simpa [impCells] using hc) (by simpa using hu)
    | agg g1 ha hr => exact absurd (h1 _ List.mem_cons_self) (by simp [Value.oneCell'])

theorem imps_sound {w0 : World} {okb : Nat → Prop} {h : Nat} (hbase : w0.heap.size ≤ h) : ∀ {cs : List AV} {cv : List Value} {bs : List Nat} {E : Env} {mem : List (Nat × Arr)} {nx : Nat}, Frm E w0 okb → MemRel E w0.heap.size mem →
    (∀ id, nx ≤ id → id < (imps nx cs).2.2 → ¬ E.al id) → RRs E.w E.ok h cs cv bs → bs.Nodup → (∀ b, b ∈ bs → ¬ E.ok b) →
    (∀ b, b ∈ bs → ∀ i arr b' o z, get mem i = some arr → arr.isMut = true → E.loc i = some (b', o, z) → b' ≠ b) →
    ∃ E', Imported E w0 okb mem nx (imps nx cs).2.1 (imps nx cs).2.2 bs E' ∧ Reps E' (imps nx cs).1 cv := by
  intro cs
  induction cs with
  | nil =>
    intro cv bs E mem nx hF hM hid hr hnd hno hfar
    cases hr
    exact ⟨E, .refl hF hM, rfl, by simp [imps]⟩
  | cons a r ih =>
    intro cv bs E mem nx hF hM hid hr hnd hno hfar
    have hl1 := imp1_le nx a
    have hl2 := imps_le r (imp1 nx a).2.2
    have main : ∀ (v : Value) (vs : List Value) (x y : List Nat), (x ++ y).Nodup → (∀ b, b ∈ x ++ y → ¬ E.ok b) → (∀ b, b ∈ x ++ y → ∀ i arr b' o z, get mem i = some arr → arr.isMut = true → E.loc i = some (b', o, z) → b' ≠ b) →
        (∃ E1, Imported E w0 okb mem nx (imp1 nx a).2.1 (imp1 nx a).2.2 x E1 ∧ Rep E1 (imp1 nx a).1 v) → RRs E.w E.ok h r vs y →
        ∃ E', Imported E w0 okb mem nx (imps nx (a :: r)).2.1 (imps nx (a :: r)).2.2 (x ++ y) E' ∧ Reps E' (imps nx (a :: r)).1 (v :: vs) := by
      rintro v vs x y hnd hno hfar ⟨E1, i1, r1⟩ hr
      rw [List.nodup_append] at hnd
      obtain ⟨E2, i2, r2⟩ := ih (E := E1) (mem := (imp1 nx a).2.1 ++ mem) (nx := (imp1 nx a).2.2) i1.frm i1.mm (fun id q1 q2 => by
        rw [i1.al id]
        rintro (q | q)
        · exact hid id (by omega) (by simp only [imps]; omega) q
        · omega) (by rw [i1.w, i1.ok]; exact hr) hnd.2.1 (fun b hb => by rw [i1.ok]; exact hno b (by simp [hb])) (fun b hb i arr b' o z hg hm hl e => by
          subst e
          rcases i1.far i arr b' o z hg hm hl with q | ⟨arr', o', z', q1, q2, q3⟩
          · exact hnd.2.2 b' q b' hb rfl
          · exact hfar b' (by simp [hb]) i arr' b' o' z' q1 q2 q3 rfl)
      refine ⟨E2, i1.trans i2, by simp [imps, r2.1], fun j c u hc hu => ?_⟩
      cases j with
      | zero => simp [imps] at hc hu; subst hc hu; exact r1.mono i2.le
      | succ j => exact r2.2 j c u (by simpa [imps] using hc) (by simpa using hu)
    have hid1 : ∀ id, nx ≤ id → id < (imp1 nx a).2.2 → ¬ E.al id := fun id q1 q2 => hid id q1 (by simp only [imps]; omega)
    cases hr with
    | @cons _ v _ vs x y ha hr =>
      refine main v vs x y hnd hno hfar ?_ hr
      have hc : imp1 nx a = impCell nx a ∨ ∃ cs, a = .agg cs := by cases a <;> first | exact .inl rfl | exact .inr ⟨_, rfl⟩
      rcases hc with e | ⟨cs, rfl⟩
      · rw [e] at hid1 ⊢
        exact impCell_sound hF hM hid1 ha (fun b hb => hno b (by simp [hb])) hbase (fun b hb => hfar b (by simp [hb]))
      · -- a struct that is pure as a whole
        cases ha with
        | pure hp =>
          cases hp with
          | agg _ cv hl g1 hv =>
            have key : ∀ (cs : List AV) (cv : List Value), cv.length = cs.length → (∀ (j : Nat) (c : AV) (v : Value), cs[j]? = some c → cv[j]? = some v → RepP E.w E.ok c v) → RRs E.w E.ok h cs cv [] := by
              intro cs
              induction cs with
              | nil =>
                intro cv hl _
                obtain rfl : cv = [] := by simpa using hl
                exact .nil
              | cons c cs ih =>
                intro cv hl hv
                cases cv with
                | nil => simp at hl
                | cons u cv => exact .cons (x := []) (y := []) (.pure (hv 0 c u rfl rfl)) (ih cv (by simpa using hl) (fun j c v h1 h2 => hv (j + 1) c v (by simpa using h1) (by simpa using h2)))
            obtain ⟨E1, i1, r1⟩ := impCells_sound hbase hF hM hid1 (key cs cv hl hv) g1 (by simp) (by simp) (by simp)
            exact ⟨E1, i1, .agg _ cv r1.1 g1 r1.2⟩
    | @agg cs cv _ vs x y g1 ha hr =>
      refine main _ vs x y hnd hno hfar ?_ hr
      rw [List.nodup_append] at hnd
      obtain ⟨E1, i1, r1⟩ := impCells_sound hbase hF hM hid1 ha g1 hnd.1 (fun b hb => hno b (by simp [hb])) (fun b hb => hfar b (by simp [hb]))
      exact ⟨E1, i1, .agg _ cv r1.1 g1 r1.2⟩
end Go.Ab
end

section
namespace Go.Ab
open Go.RowKit (Below)

theorem rep_pure {E : Env} {a : AV} {v : Value} (h : owns a = false) (hr : Rep E a v) : RepP E.w E.ok a v := by
  cases hr with
  | pure h => exact h
  | _ => simp [owns] at h

/-- Cells of a row, read where all that is there may be read. -/
theorem row_repP {E : Env} {base : Nat} {mem : List (Nat × Arr)} (hM : MemRel E base mem) (hlt : ∀ b, E.ok b → b < E.w.heap.size) {id off len sz : Nat} {xs : List (List AV)} (hg : get mem id = some (.row sz xs) ∨ get mem id = some (.frz sz xs))
    (hlen : off + len ≤ xs.length) {v : Value} (hv : Rep E (.own id off len) v) : RepP E.w (fun b => b < E.w.heap.size) (.sl sz ((xs.drop off).take len)) v := by
  have hll : ((xs.drop off).take len).length = len := by simp; omega
  rcases hv.own_inv.2 with ⟨hl, rfl, rfl, rfl⟩ | ⟨b, o, z, cap, hl, rfl, hc, c0, t0, f0, hb0, _⟩
  · simpa using RepP.slNil sz
  · have hzz := row_loc hM hg hl
    subst hzz
    obtain ⟨hz, hcell⟩ := row_cells (off := off) (len := len) hM hg hl
    have := RepP.sl (w := E.w) (ok := fun b => b < E.w.heap.size) z ((xs.drop off).take len) b (o + off * z) cap (fun i j => (E.w.cell? ⟨b, o + off * z + i * z + j, none⟩).getD undef) (lt_of_blk hb0) (by omega) hz
      (fun i cs j a hi hj => by obtain ⟨y, h1, h2, h3⟩ := hcell i cs j a hi hj; simp [h1])
      (fun i cs j a hi hj => by obtain ⟨y, h1, h2, h3⟩ := hcell i cs j a hi hj; simpa [h1] using h2)
      (fun i cs j a hi hj => by obtain ⟨y, h1, h2, h3⟩ := hcell i cs j a hi hj; simpa [h1] using h3.mono hlt (fun _ _ => rfl))
    rwa [hll] at this

theorem args_temp {E : Env} {base : Nat} {mem : List (Nat × Arr)} (hM : MemRel E base mem) (hlt : ∀ b, E.ok b → b < E.w.heap.size) {a a' : AV} (h : ArgTo mem a a') : ∀ {v : Value}, Rep E a v → RepP E.w (fun b => b < E.w.heap.size) a' v := by
  induction h with
  | same h => exact fun hv => (rep_pure h hv).mono hlt (fun _ _ => rfl)
  | nil sz => intro v hv; obtain rfl := hv.nil_inv; exact .slNil sz
  | row hg hl => exact fun hv => row_repP hM hlt (.inl hg) hl hv
  | frz hg hl => exact fun hv => row_repP hM hlt (.inr hg) hl hv
  | @empty id off sz sz' xs hg =>
    intro v hv
    rcases hv.own_inv.2 with ⟨hl, rfl, _, rfl⟩ | ⟨b, o, z, cap, hl, rfl, hc, c0, t0, f0, hb0, _⟩
    · exact .slNil sz'
    · exact .sl sz' [] b _ cap (fun _ _ => undef) (lt_of_blk hb0) (by simp) (by simp) (by simp) (by simp) (by simp)
  | @box id j cs cs' hg hl hv ih =>
    intro v hr
    obtain ⟨ha, b, o, z, hloc, rfl⟩ := hr.ptr_inv
    obtain ⟨b', c, t, hloc', hb, _, _, hsz, hc⟩ := (hM.arr id _ hg).2
    rw [hloc] at hloc'
    obtain ⟨rfl, rfl, rfl⟩ : b = b' ∧ o = 0 ∧ z = 0 := by simpa using hloc'
    have key : ∀ (q : Nat) (c' : AV), cs'[q]? = some c' → ∃ y, E.w.cell? ⟨b, 0 + 0 * 0 + j + q, none⟩ = some y ∧ y.oneCell' = true ∧ RepP E.w (fun b => b < E.w.heap.size) c' y := by
      intro q c' hq
      obtain ⟨c1, hc1⟩ : ∃ c1, (cs.drop j)[q]? = some c1 := ⟨_, List.getElem?_eq_getElem (by rw [← hl]; exact (List.getElem?_eq_some_iff.1 hq).1)⟩
      have hc2 := hc1
      rw [List.getElem?_drop] at hc2
      obtain ⟨y, h1, h2, h3⟩ := hc (j + q) c1 hc2
      exact ⟨y, by rw [cell_at hb]; simpa using h1, h2, ih q c1 c' hc1 hq h3⟩
    exact .ref cs' b _ (fun q => (E.w.cell? ⟨b, 0 + 0 * 0 + j + q, none⟩).getD undef) (lt_of_blk hb)
      (fun q c' hq => by obtain ⟨y, h1, _⟩ := key q c' hq; simp only [h1, Option.getD_some]) (fun q c' hq => by obtain ⟨y, h1, h2, _⟩ := key q c' hq; simpa only [h1, Option.getD_some] using h2) (fun q c' hq => by obtain ⟨y, h1, _, h3⟩ := key q c' hq; simpa only [h1, Option.getD_some] using h3)
  | @fn f x y x' y' hx hy h1 h2 ih1 ih2 =>
    intro v hr
    obtain ⟨fv, cv, rfl, r1, r2⟩ := hr.fn_inv
    refine .fn f x' y' fv cv (by rw [r1.1, hx]) (by rw [r2.1, hy]) (fun j c u hj hu => ?_) (fun j c u hj hu => ?_)
    · obtain ⟨c1, hc1⟩ : ∃ c1, x[j]? = some c1 := ⟨_, List.getElem?_eq_getElem (by rw [← hx]; exact (List.getElem?_eq_some_iff.1 hj).1)⟩
      exact ih1 j c1 c hc1 hj (r1.2 j c1 u hc1 hu)
    · obtain ⟨c1, hc1⟩ : ∃ c1, y[j]? = some c1 := ⟨_, List.getElem?_eq_getElem (by rw [← hy]; exact (List.getElem?_eq_some_iff.1 hj).1)⟩
      exact ih2 j c1 c hc1 hj (r2.2 j c1 u hc1 hu)
  | @agg x x' hx h1 ih =>
    intro v hr
    obtain ⟨cv, rfl, g1, r1⟩ := hr.agg_inv
    refine .agg x' cv (by rw [r1.1, hx]) g1 (fun j c u hj hu => ?_)
    obtain ⟨c1, hc1⟩ : ∃ c1, x[j]? = some c1 := ⟨_, List.getElem?_eq_getElem (by rw [← hx]; exact (List.getElem?_eq_some_iff.1 hj).1)⟩
    exact ih j c1 c hc1 hj (r1.2 j c1 u hc1 hu)

/-- An argument whose rows are frozen. -/
def FrzCell (mem mem' : List (Nat × Arr)) (a : AV) : Prop :=
  (∀ id off len, a = .own id off len → ∃ sz xs, (get mem id = some (.row sz xs) ∨ get mem id = some (.frz sz xs)) ∧ get mem' id = some (.frz sz xs)) ∧ (owns a = true → ∃ id off len, a = .own id off len)
theorem frzC_sound {w0 : World} {okb : Nat → Prop} {E : Env} {mem : List (Nat × Arr)} (hF : Frm E w0 okb) (hM : MemRel E w0.heap.size mem) : ∀ {as : List AV} {z : List (Nat × Arr)}, frzC mem as = some z →
    ∃ E1, Frozen E w0 okb (z ++ mem) E1 ∧ (∀ id arr, get (z ++ mem) id = some arr → get mem id = some arr ∨ ∃ sz xs, get mem id = some (.row sz xs) ∧ arr = .frz sz xs) ∧
      ∀ a, a ∈ as → FrzCell mem (z ++ mem) a
  | [], z, h => by
    obtain rfl := Option.some.inj h
    exact ⟨E, .refl hF hM, fun id arr h => .inl h, by simp⟩
  | a :: r, z, h => by
    have other : (∀ id off len, a ≠ .own id off len) → frzC mem r = some z → owns a = false →
        ∃ E1, Frozen E w0 okb (z ++ mem) E1 ∧ (∀ id arr, get (z ++ mem) id = some arr → get mem id = some arr ∨ ∃ sz xs, get mem id = some (.row sz xs) ∧ arr = .frz sz xs) ∧
          ∀ a', a' ∈ a :: r → FrzCell mem (z ++ mem) a' := by
      intro hne hr ho
      obtain ⟨E1, f1, q1, q2⟩ := frzC_sound hF hM hr
      refine ⟨E1, f1, q1, fun a' ha' => ?_⟩
      rcases List.mem_cons.1 ha' with rfl | ha'
      · exact ⟨fun id off len e => absurd e (hne id off len), fun h => by rw [ho] at h; cases h⟩
      · exact q2 a' ha'
    cases a with
    | own id off len =>
      unfold frzC at h
      split at h
      · rename_i sz xs z' hg hr
        obtain rfl := Option.some.inj h
        obtain ⟨E1, f1, q1, q2⟩ := frzC_sound hF hM hr
        have hk : ∃ E2, Frozen E w0 okb ((id, Arr.frz sz xs) :: (z' ++ mem)) E2 := by
          cases hz : get (z' ++ mem) id with
          | none =>
            exfalso
            have : ∀ (z : List (Nat × Arr)) (arr : Arr), get mem id = some arr → get (z ++ mem) id ≠ none := by
              intro z
              induction z with
              | nil => intro arr h e; rw [List.nil_append, h] at e; cases e
              | cons p z ih =>
                intro arr h e
                rw [List.cons_append, get_cons] at e
                split at e
                · cases e
                · exact ih arr h e
            exact this z' _ hg hz
          | some arr =>
            rcases q1 id arr hz with e | ⟨sz', xs', e, rfl⟩
            · rw [hg] at e
              obtain rfl := Option.some.inj e
              obtain ⟨E2, h1, h2, h3, h4, h5, h6, _⟩ := freeze_block f1.frm f1.mem hz
              exact ⟨E2, f1.trans ⟨h1, h2, h3, h4, h5, h6⟩⟩
            · rw [hg] at e
              obtain ⟨rfl, rfl⟩ : sz = sz' ∧ xs = xs' := by simpa using e
              exact ⟨E1, f1.w, f1.al, f1.loc, f1.le, f1.frm, f1.mem.cons (f1.mem.arr id _ hz).1 (f1.mem.arr id _ hz).2 (fun h => by cases h)⟩
        obtain ⟨E2, f2⟩ := hk
        have hget : ∀ i arr, get ((id, Arr.frz sz xs) :: (z' ++ mem)) i = some arr → get mem i = some arr ∨ ∃ sz xs, get mem i = some (.row sz xs) ∧ arr = .frz sz xs := by
          intro i arr hi
          rw [get_cons] at hi
          split at hi
          · rename_i e; subst e; exact .inr ⟨sz, xs, hg, (Option.some.inj hi).symm⟩
          · exact q1 i arr hi
        refine ⟨E2, f2, hget, fun a' ha' => ?_⟩
        rcases List.mem_cons.1 ha' with rfl | ha'
        · exact ⟨fun i o l e => by
            obtain ⟨rfl, rfl, rfl⟩ : id = i ∧ off = o ∧ len = l := by simpa using e
            exact ⟨sz, xs, .inl hg, by rw [List.cons_append, get_cons, if_pos rfl]⟩, fun _ => ⟨id, off, len, rfl⟩⟩
        · refine ⟨fun i o l e => ?_, (q2 a' ha').2⟩
          obtain ⟨sz', xs', h1, h2⟩ := (q2 a' ha').1 i o l e
          by_cases hi : id = i
          · subst hi
            rw [hg] at h1
            obtain ⟨rfl, rfl⟩ : sz = sz' ∧ xs = xs' := by simpa using h1
            exact ⟨sz, xs, .inl hg, by rw [List.cons_append, get_cons, if_pos rfl]⟩
          · exact ⟨sz', xs', h1, by rw [List.cons_append, get_cons, if_neg hi]; exact h2⟩
      · rename_i sz xs z' hg hr
        obtain rfl := Option.some.inj h
        obtain ⟨E1, f1, q1, q2⟩ := frzC_sound hF hM hr
        refine ⟨E1, f1, q1, fun a' ha' => ?_⟩
        rcases List.mem_cons.1 ha' with rfl | ha'
        · refine ⟨fun i o l e => ?_, fun _ => ⟨id, off, len, rfl⟩⟩
          obtain ⟨rfl, rfl, rfl⟩ : id = i ∧ off = o ∧ len = l := by simpa using e
          refine ⟨sz, xs, .inr hg, ?_⟩
          have : ∀ (z : List (Nat × Arr)) (arr : Arr), get mem id = some arr → get (z ++ mem) id ≠ none := by
            intro z
            induction z with
            | nil => intro arr h e; rw [List.nil_append, h] at e; cases e
            | cons p z ih =>
              intro arr h e
              rw [List.cons_append, get_cons] at e
              split at e
              · cases e
              · exact ih arr h e
          cases hz : get (z' ++ mem) id with
          | none => exact absurd hz (this z' _ hg)
          | some arr =>
            rcases q1 id arr hz with e | ⟨_, _, e, _⟩
            · rw [hg] at e; exact e.symm
            · rw [hg] at e; cases e
        · exact q2 a' ha'
      · exact absurd h (by simp)
    | agg _ => simp only [frzC, owns, if_true] at h; exact absurd h (by simp)
    | ptr _ _ _ => simp only [frzC, owns, if_true] at h; exact absurd h (by simp)
    | fn _ _ _ => simp only [frzC, owns, if_true] at h; exact absurd h (by simp)
    | tup _ => simp only [frzC, owns, if_true] at h; exact absurd h (by simp)
    | _ => exact other (by simp) (by simpa [frzC, owns] using h) rfl

theorem flatA_of {a : AV} : ∀ {as : List AV}, a ∈ as → (∃ cs, a = .agg cs ∧ ∀ c, c ∈ cs → c ∈ flatA as) ∨ a ∈ flatA as
  | [], h => by cases h
  | x :: r, h => by
    rcases List.mem_cons.1 h with rfl | h
    · cases a <;> first | exact .inr List.mem_cons_self | exact .inl ⟨_, rfl, fun c hc => List.mem_append_left _ hc⟩
    · rcases flatA_of h with ⟨cs, e, hc⟩ | hm
      · refine .inl ⟨cs, e, fun c hq => ?_⟩
        have hq := hc c hq
        cases x <;> first | exact List.mem_cons_of_mem _ hq | exact List.mem_append_right _ hq
      · refine .inr ?_
        cases x <;> first | exact List.mem_cons_of_mem _ hm | exact List.mem_append_right _ hm

theorem frzOf_sound {w0 : World} {okb : Nat → Prop} {E : Env} {mem : List (Nat × Arr)} (hF : Frm E w0 okb) (hM : MemRel E w0.heap.size mem) {as : List AV} {z : List (Nat × Arr)} (h : frzOf mem as = some z) :
    ∃ E1, Frozen E w0 okb (z ++ mem) E1 ∧ (∀ id arr, get (z ++ mem) id = some arr → get mem id = some arr ∨ ∃ sz xs, get mem id = some (.row sz xs) ∧ arr = .frz sz xs) ∧
      ∀ a, a ∈ as → FrzCell mem (z ++ mem) a ∨ ∃ cs, a = .agg cs ∧ ∀ c, c ∈ cs → FrzCell mem (z ++ mem) c := by
  obtain ⟨E1, h1, h2, h3⟩ := frzC_sound hF hM h
  refine ⟨E1, h1, h2, fun a ha => ?_⟩
  rcases flatA_of ha with ⟨cs, e, hc⟩ | hm
  · exact .inr ⟨cs, e, fun c h => h3 c (hc c h)⟩
  · exact .inl (h3 a hm)
end Go.Ab
end

section
namespace Go.Ab
open Go.RowKit (Below)

/-- What a call yields. -/
def CallYields0 (R : CallRel) (s : AS) (g : FuncId) (as : List AV) (r : Res) : Prop :=
  ∃ as' v, ArgsTo s.mem as as' ∧ R g as' v ∧
    ((noref v = true ∧ r = ⟨v, [], s.nx, if as.any owns then s.mem.map (·.1) else []⟩) ∨
      ∃ z, frzOf s.mem as = some z ∧ noref v = false ∧ r = ⟨(imp s.nx v).1, (imp s.nx v).2.1 ++ z, (imp s.nx v).2.2, if as.any owns then s.mem.map (·.1) else []⟩)

def MutYields (R : CallRel) (s : AS) (g : FuncId) (as : List AV) (r : Res) : Prop :=
  ∃ id off len sz xs ys, as = [.own id off len] ∧ get s.mem id = some (.row sz xs) ∧ off + len ≤ xs.length ∧ (0 < len ∧ len ≤ 9223372036854775807) ∧ R g [.fr sz ((xs.drop off).take len)] (.fr sz ys) ∧ r = mutRes s id off len sz xs ys
def CallYields (R : CallRel) (s : AS) (g : FuncId) (as : List AV) (r : Res) : Prop := CallYields0 R s g as r ∨ MutYields R s g as r

theorem acall_yields {R : CallRel} {s : AS} {g : FuncId} {as : List AV} {K : Res → Prop} (h : acall R s g as K) : ∃ r, CallYields R s g as r ∧ K r := by
  rcases h with ⟨as', v, h1, h2, h3⟩ | ⟨id, off, len, sz, xs, ys, h1, h2, h3, h4, h5, h6⟩
  · split at h3
    · rename_i hn; exact ⟨_, .inl ⟨as', v, h1, h2, .inl ⟨hn, rfl⟩⟩, h3⟩
    · rename_i z hn hz; exact ⟨_, .inl ⟨as', v, h1, h2, .inr ⟨z, hz, hn, rfl⟩⟩, h3⟩
    · exact h3.elim
  · exact ⟨_, .inr ⟨id, off, len, sz, xs, ys, h1, h2, h3, h4, h5, rfl⟩, h6⟩

theorem argsTo_get {mem : List (Nat × Arr)} : ∀ {as as' : List AV}, ArgsTo mem as as' → as'.length = as.length ∧ ∀ (j : Nat) (a a' : AV), as[j]? = some a → as'[j]? = some a' → ArgTo mem a a'
  | [], [], _ => ⟨rfl, by simp⟩
  | a :: r, a' :: r', h => by
    obtain ⟨h1, h2⟩ := argsTo_get h.2
    refine ⟨by simp [h1], fun j x y hx hy => ?_⟩
    cases j with
    | zero => simp at hx hy; subst hx hy; exact h.1
    | succ j => exact h2 j x y (by simpa using hx) (by simpa using hy)
  | [], _ :: _, h => h.elim
  | _ :: _, [], h => h.elim

theorem args_permC {E E1 : Env} {w0 : World} {okb : Nat → Prop} {mem z : List (Nat × Arr)} (f1 : Frozen E w0 okb (z ++ mem) E1) {a a' : AV} (hto : ArgTo mem a a') {v : Value} (hv : Rep E a v)
    (hf : FrzCell mem (z ++ mem) a) :
    RepP E1.w E1.ok a' v := by
  have hv1 := hv.mono f1.le
  obtain ⟨h1, h2⟩ := hf
  cases hto with
  | same h => exact rep_pure h hv1
  | nil sz => obtain rfl := hv.nil_inv; exact .slNil sz
  | @row id off len sz xs hg hl =>
    obtain ⟨sz', xs', q1, q2⟩ := h1 id off len rfl
    rw [hg] at q1
    obtain ⟨rfl, rfl⟩ : sz = sz' ∧ xs = xs' := by simpa using q1
    exact frz_rep f1.mem q2 hv1 hl
  | @frz id off len sz xs hg hl =>
    obtain ⟨sz', xs', q1, q2⟩ := h1 id off len rfl
    rw [hg] at q1
    obtain ⟨rfl, rfl⟩ : sz = sz' ∧ xs = xs' := by simpa using q1
    exact frz_rep f1.mem q2 hv1 hl
  | @empty id off sz sz' xs hg =>
    obtain ⟨sz2, xs2, q1, q2⟩ := h1 id off 0 rfl
    rcases hv1.own_inv.2 with ⟨hl, rfl, _, rfl⟩ | ⟨b, o, zz, cap, hl, rfl, hc, c0, t0, f0, hb0, _⟩
    · exact .slNil sz'
    · have hr := (f1.mem.arr id _ q2).2
      simp only [ArrRel, hl] at hr
      obtain ⟨_, _, _, _, hok, _⟩ := hr
      exact .sl sz' [] b _ cap (fun _ _ => undef) hok (by simp) (by simp) (by simp) (by simp) (by simp)
  | box hg hl hv => obtain ⟨_, _, _, e⟩ := h2 rfl; cases e
  | fn hx hy h1 h2' => obtain ⟨_, _, _, e⟩ := h2 rfl; cases e
  | agg hx hc => obtain ⟨_, _, _, e⟩ := h2 rfl; cases e

theorem args_perm {E E1 : Env} {w0 : World} {okb : Nat → Prop} {mem z : List (Nat × Arr)} (f1 : Frozen E w0 okb (z ++ mem) E1) {a a' : AV} (hto : ArgTo mem a a') {v : Value} (hv : Rep E a v)
    (hf : FrzCell mem (z ++ mem) a ∨ ∃ cs, a = .agg cs ∧ ∀ c, c ∈ cs → FrzCell mem (z ++ mem) c) : RepP E1.w E1.ok a' v := by
  rcases hf with hf | ⟨cs, rfl, hf⟩
  · exact args_permC f1 hto hv hf
  · cases hto with
    | same h => cases h
    | @agg _ x' hx hc =>
      obtain ⟨cv, rfl, g1, r1⟩ := hv.agg_inv
      refine .agg x' cv (by rw [r1.1, hx]) g1 (fun j c u hj hu => ?_)
      obtain ⟨c1, hc1⟩ : ∃ c1, cs[j]? = some c1 := ⟨_, List.getElem?_eq_getElem (by rw [← hx]; exact (List.getElem?_eq_some_iff.1 hj).1)⟩
      exact args_permC f1 (hc j c1 c hc1 hj) (r1.2 j c1 u hc1 hu) (hf c1 (List.mem_of_getElem? hc1))

theorem rrs_sc {w : World} {ok : Nat → Prop} {h : Nat} : ∀ {cs : List AV} {cv : List Value} {bs : List Nat}, cs.all isSc = true → RRs w ok h cs cv bs → ∀ (E : Env), Reps E cs cv := by
  intro cs
  induction cs with
  | nil => intro cv bs _ hr E; cases hr; exact ⟨rfl, by simp⟩
  | cons a r ih =>
    intro cv bs hall hr E
    simp only [List.all_cons, Bool.and_eq_true] at hall
    cases hr with
    | cons ha hr =>
      have h2 := ih hall.2 hr E
      refine ⟨by simp [h2.1], fun j c u hc hu => ?_⟩
      cases j with
      | zero =>
        simp at hc hu
        subst hc hu
        cases ha with
        | pure hp => cases hp <;> first | (simp [isSc] at hall; done) | exact .pure (.sc _)
        | frNil _ => simp [isSc] at hall
        | fr => simp [isSc] at hall
      | succ j => exact h2.2 j c u (by simpa using hc) (by simpa using hu)
    | agg _ _ _ => simp [isSc] at hall

theorem repP_sc {w : World} {ok : Nat → Prop} {a : AV} {v : Value} (h : RepP w ok a v) (hn : noref1 a = true) (E : Env) : Rep E a v := by
  cases h with
  | sc _ => exact .pure (.sc _)
  | agg cs cv hl h1 hv =>
    simp only [noref1] at hn
    refine .agg cs cv hl h1 (fun j c u hj hu => ?_)
    have hs := (List.all_eq_true.1 hn) c (List.mem_of_getElem? hj)
    have := hv j c u hj hu
    cases this <;> first | (simp [isSc] at hs; done) | exact .pure (.sc _)
  | _ => simp [noref1] at hn

theorem rrs_noref {w : World} {ok : Nat → Prop} {h : Nat} : ∀ {cs : List AV} {cv : List Value} {bs : List Nat}, cs.all noref1 = true → RRs w ok h cs cv bs → ∀ (E : Env), Reps E cs cv := by
  intro cs
  induction cs with
  | nil => intro cv bs _ hr E; cases hr; exact ⟨rfl, by simp⟩
  | cons a r ih =>
    intro cv bs hall hr E
    simp only [List.all_cons, Bool.and_eq_true] at hall
    have tail : ∀ (v : Value) (vs : List Value), Rep E a v → Reps E r vs → Reps E (a :: r) (v :: vs) := by
      intro v vs h1 h2
      refine ⟨by simp [h2.1], fun j c u hc hu => ?_⟩
      cases j with
      | zero => simp at hc hu; subst hc hu; exact h1
      | succ j => exact h2.2 j c u (by simpa using hc) (by simpa using hu)
    cases hr with
    | cons ha hr =>
      refine tail _ _ ?_ (ih hall.2 hr E)
      cases ha with
      | pure hp => exact repP_sc hp hall.1 E
      | frNil _ => simp [noref1] at hall
      | fr => simp [noref1] at hall
    | @agg cs cv _ vs x y g1 ha hr =>
      refine tail _ _ ?_ (ih hall.2 hr E)
      have hs : cs.all isSc = true := by simpa only [noref1] using hall.1
      have := rrs_sc hs ha E
      exact .agg cs cv this.1 g1 this.2

theorem noref_res {w w' : World} {ok : Nat → Prop} {r : AV} {v : Value} (h : ResOk w w' ok r v) (hn : noref r = true) (E : Env) : Rep E r v := by
  obtain ⟨bs, rs, vs, _, hr, rfl, rfl⟩ := h
  have key : rs.all noref1 = true ∨ (∃ rs', rs = [.tup rs'] ∧ rs'.all noref1 = true) := by
    match rs, hn with
    | [a], hn =>
      cases a with
      | sc v => exact .inl rfl
      | agg cs => exact .inl (by simpa [noref, noref1] using hn)
      | tup l => exact .inr ⟨l, rfl, hn⟩
      | _ => simp [noref] at hn
    | [], hn => exact .inl rfl
    | _ :: _ :: _, hn => exact .inl hn
  rcases key with key | ⟨rs', rfl, hk⟩
  · have hR := rrs_noref key hr E
    match rs, vs, hR with
    | [a], [u], hR => exact hR.2 0 a u rfl rfl
    | [], [], hR => exact .tup [] [] rfl (by simp)
    | a :: b :: l, u :: x :: l', hR => exact .tup _ _ hR.1 hR.2
    | [], _ :: _, hR => have := hR.1; simp at this
    | [_], [], hR => have := hR.1; simp at this
    | [_], _ :: _ :: _, hR => have := hR.1; simp at this
    | _ :: _ :: _, [], hR => have := hR.1; simp at this
    | _ :: _ :: _, [_], hR => have := hR.1; simp at this
  · cases hr with
    | cons ha hr =>
      cases hr
      cases ha with
      | pure hp =>
        cases hp with
        | tup _ cv hl hv =>
          refine .tup rs' cv hl (fun j c u hj hu => ?_)
          exact repP_sc (hv j c u hj hu) ((List.all_eq_true.1 hk) c (List.mem_of_getElem? hj)) E
end Go.Ab
end

section
namespace Go.Ab
open Go.RowKit (Below)

theorem rrs_pure {w : World} {ok : Nat → Prop} {h : Nat} : ∀ {cs : List AV} {cv : List Value}, cv.length = cs.length → (∀ (j : Nat) (c : AV) (v : Value), cs[j]? = some c → cv[j]? = some v → RepP w ok c v) → RRs w ok h cs cv []
  | [], cv, hl, _ => by
    obtain rfl : cv = [] := by simpa using hl
    exact .nil
  | c :: cs, [], hl, _ => by simp at hl
  | c :: cs, u :: cv, hl, hv => .cons (x := []) (y := []) (.pure (hv 0 c u rfl rfl)) (rrs_pure (by simpa using hl) (fun j c v h1 h2 => hv (j + 1) c v (by simpa using h1) (by simpa using h2)))

theorem rr_ge {w : World} {ok : Nat → Prop} {h : Nat} {a : AV} {v : Value} {bs : List Nat} (hr : RR w ok h a v bs) : ∀ b, b ∈ bs → h ≤ b := by
  cases hr with
  | pure _ => simp
  | frNil _ => simp
  | fr _ _ b _ _ _ _ _ hh => intro b' hb'; simp at hb'; omega
theorem rrs_ge {w : World} {ok : Nat → Prop} {h : Nat} {as : List AV} {vs : List Value} {bs : List Nat} (hr : RRs w ok h as vs bs) : ∀ b, b ∈ bs → h ≤ b := by
  induction hr with
  | nil => simp
  | cons ha _ ih => exact fun b hb => (List.mem_append.1 hb).elim (rr_ge ha b) (ih b)
  | agg _ _ _ ih1 ih2 => exact fun b hb => (List.mem_append.1 hb).elim (ih1 b) (ih2 b)

theorem imp_sound {w0 : World} {okb : Nat → Prop} {h : Nat} (hbase : w0.heap.size ≤ h) {rs : List AV} {vs : List Value} {bs : List Nat} {E : Env} {mem : List (Nat × Arr)} {nx : Nat} {r : AV} {v : Value} (hF : Frm E w0 okb) (hM : MemRel E w0.heap.size mem)
    (hr : r = (match rs with | [a] => a | _ => .tup rs)) (hv : v = (match vs with | [a] => a | _ => .tuple vs.toArray))
    (hid : ∀ id, nx ≤ id → id < (imp nx r).2.2 → ¬ E.al id) (hR : RRs E.w E.ok h rs vs bs) (hnd : bs.Nodup) (hno : ∀ b, b ∈ bs → ¬ E.ok b)
    (hfar : ∀ b, b ∈ bs → ∀ i arr b' o z, get mem i = some arr → arr.isMut = true → E.loc i = some (b', o, z) → b' ≠ b) :
    ∃ E', Imported E w0 okb mem nx (imp nx r).2.1 (imp nx r).2.2 bs E' ∧ Rep E' (imp nx r).1 v := by
  have tuple : r = .tup rs → v = .tuple vs.toArray → ∃ E', Imported E w0 okb mem nx (imp nx r).2.1 (imp nx r).2.2 bs E' ∧ Rep E' (imp nx r).1 v := by
    rintro rfl rfl
    obtain ⟨E1, i1, r1⟩ := imps_sound hbase hF hM hid hR hnd hno hfar
    exact ⟨E1, i1, .tup _ vs r1.1 r1.2⟩
  match rs, vs, hR with
  | [a], [u], hR =>
    simp only at hr hv
    subst hr hv
    by_cases ht : ∃ l, r = .tup l
    · obtain ⟨l, rfl⟩ := ht
      cases hR with
      | cons ha hr =>
        cases hr
        cases ha with
        | pure hp =>
          cases hp with
          | tup _ cv hl hv =>
            obtain ⟨E1, i1, r1⟩ := imps_sound hbase hF hM hid (rrs_pure (h := h) hl hv) hnd hno hfar
            exact ⟨E1, i1, .tup _ cv r1.1 r1.2⟩
    · have e : imp nx r = imp1 nx r := by cases r <;> first | rfl | exact absurd ⟨_, rfl⟩ ht
      rw [e] at hid ⊢
      obtain ⟨E1, i1, r1⟩ := imps_sound hbase hF hM (nx := nx) (by simpa [imps] using hid) hR hnd hno hfar
      simp only [imps, List.nil_append] at i1 r1
      exact ⟨E1, i1, r1.2 0 _ v rfl rfl⟩
  | [], [], hR => exact tuple hr hv
  | a :: b :: l, u :: x :: l', hR => exact tuple hr hv
  | [_], _ :: _ :: _, hR =>
    cases hR with
    | cons _ h => cases h
    | agg _ _ h => cases h
  | _ :: _ :: _, [_], hR =>
    cases hR with
    | cons _ h => cases h
    | agg _ _ h => cases h

theorem call_sound0 {P : Program} {R : CallRel} (hR : RSound P R) {E : Env} {w0 : World} {okb : Nat → Prop} {s : AS} {g : FuncId} {as : List AV} {vs : List Value} {r : Res} (hF : Frm E w0 okb) (hM : MemRel E w0.heap.size s.mem)
    (hy : CallYields0 R s g as r) (hvs : Reps E as vs) (hid : ∀ id, s.nx ≤ id → id < r.nx → ¬ E.al id) :
    Enters P g ∧ Calls P g vs.toArray E.w fun e w' => ∃ v E', e = .returned v ∧ E'.w = w' ∧ Stepped E w0 okb s.mem s.nx r v E' := by
  obtain ⟨as', v, hto, hRv, hmode⟩ := hy
  obtain ⟨hen, hc, _⟩ := hR g as' v hRv
  obtain ⟨hlen, hg⟩ := argsTo_get hto
  have argOf : ∀ (j : Nat) (a' : AV) (u : Value), as'[j]? = some a' → vs[j]? = some u → ∃ a, as[j]? = some a ∧ ArgTo s.mem a a' ∧ Rep E a u := by
    intro j a' u hj hu
    obtain ⟨a, ha⟩ : ∃ a, as[j]? = some a := ⟨_, List.getElem?_eq_getElem (by rw [← hlen]; exact (List.getElem?_eq_some_iff.1 hj).1)⟩
    exact ⟨a, ha, hg j a a' ha hj, hvs.2 j a u ha hu⟩
  refine ⟨hen, ?_⟩
  rcases hmode with ⟨hn, rfl⟩ | ⟨z, hz, hn, rfl⟩
  · refine (hc E.w (fun b => b < E.w.heap.size) vs (fun b h => h) ⟨by rw [hvs.1, hlen], fun j a' u hj hu => ?_⟩).mono ?_
    · obtain ⟨a, _, h2, h3⟩ := argOf j a' u hj hu
      exact args_temp hM hF.lt h2 h3
    · rintro e w' ⟨x, rfl, hB, hres⟩
      have hle := below_le hF.lt hB
      refine ⟨x, { E with w := w' }, rfl, rfl, hle, fun id => ⟨.inl, fun h => h.elim (fun h => h) (fun h => by simp only at h; omega)⟩, Nat.le_refl _, ⟨hF.below.trans (hB.mono hF.below.size), hF.okb, fun b h => Nat.lt_of_lt_of_le (hF.lt b h) hB.size⟩, ?_, noref_res hres hn _⟩
      refine hM.mono hle fun i arr hg hm b o z hl => ?_
      obtain ⟨h1, h2, h3⟩ := mut_fact hM hg hm hl
      exact ⟨hB.block b h2, h1⟩
  · obtain ⟨E1, f1, q1, q2⟩ := frzOf_sound hF hM hz
    have hw := f1.w
    rw [← hw]
    refine (hc E1.w E1.ok vs f1.frm.lt ⟨by rw [hvs.1, hlen], fun j a' u hj hu => ?_⟩).mono ?_
    · obtain ⟨a, h1, h2, h3⟩ := argOf j a' u hj hu
      exact args_perm f1 h2 h3 (q2 a (List.mem_of_getElem? h1))
    · rintro e w' ⟨x, rfl, hB, bs, rs, ws, hnd, hRR, hr1, hv1⟩
      have hge := rrs_ge hRR
      obtain ⟨hle, hF2, hM2⟩ := after_env f1.frm f1.mem hB hge
      obtain ⟨E3, i3, r3⟩ := imp_sound (h := E1.w.heap.size) (E := E1.after w' bs) (nx := s.nx) (okb := okb) f1.frm.below.size hF2 hM2 hr1 hv1 (fun id h1 h2 h3 => hid id h1 h2 (by rw [← f1.al]; exact h3)) hRR hnd (fun b hb h => h.2 hb)
        (fun b hb i arr b' o z' hg hm hl e => by
          have := (mut_fact f1.mem hg hm hl).2.1
          have := hge b hb
          omega)
      refine ⟨x, E3, rfl, i3.w, (f1.le.trans hle).trans i3.le, fun id => ?_, i3.nx, i3.frm, ?_, r3⟩
      · rw [i3.al id]
        show E1.al id ∨ _ ↔ _
        rw [f1.al]
      · simp only [List.append_assoc]; exact i3.mm

def Env.drawN (E : Env) (q : Nat) : Env := { E with w := E.w.drewN q }
theorem drawN_le (E : Env) (q : Nat) : E.Le (E.drawN q) := ⟨fun _ h => h, fun _ _ => rfl, fun _ h => ⟨h, rfl⟩, fun _ c t f h => ⟨c, f, h, rfl⟩⟩
theorem drawN_frm {E : Env} {w0 : World} {okb : Nat → Prop} (hF : Frm E w0 okb) (q : Nat) : Frm (E.drawN q) w0 okb :=
  ⟨hF.below.trans ⟨rfl, rfl, rfl, Nat.le_refl _, fun _ _ => rfl⟩, hF.okb, hF.lt⟩
theorem drawN_mem {E : Env} {base : Nat} {mem : List (Nat × Arr)} (hM : MemRel E base mem) (q : Nat) : MemRel (E.drawN q) base mem :=
  hM.mono (drawN_le E q) fun id arr hg hm b o z hl => ⟨rfl, (mut_fact hM hg hm hl).1⟩

/-- The place that comes to k when a part is turned round. -/
def mir (off len k : Nat) : Nat := if off ≤ k ∧ k < off + len then off + (len - 1 - (k - off)) else k
theorem mir_get {α : Type} {xs : List α} {off len : Nat} (h : off + len ≤ xs.length) (k : Nat) :
    (xs.take off ++ ((xs.drop off).take len).reverse ++ xs.drop (off + len))[k]? = xs[mir off len k]? := by
  have hw : ((xs.drop off).take len).length = len := by simp; omega
  rw [List.append_assoc, List.getElem?_append, List.length_take, Nat.min_eq_left (by omega)]
  split
  · rename_i h1
    rw [List.getElem?_take, if_pos h1, mir, if_neg (by omega)]
  · rename_i h1
    rw [List.getElem?_append, List.length_reverse, hw]
    split
    · rename_i h2
      rw [List.getElem?_reverse (by omega), hw, List.getElem?_take, if_pos (by omega), List.getElem?_drop, mir, if_pos (by omega)]
    · rename_i h2
      rw [List.getElem?_drop, mir, if_neg (by omega)]
      congr 1
      omega
theorem mir_len {α : Type} {xs : List α} {off len : Nat} (h : off + len ≤ xs.length) : (xs.take off ++ ((xs.drop off).take len).reverse ++ xs.drop (off + len)).length = xs.length := by
  simp; omega

theorem mut_sound {P : Program} {R : CallRel} (hR : RSound P R) {E : Env} {w0 : World} {okb : Nat → Prop} {s : AS} {g : FuncId} {as : List AV} {vs : List Value} {r : Res} (hF : Frm E w0 okb) (hM : MemRel E w0.heap.size s.mem)
    (hy : MutYields R s g as r) (hvs : Reps E as vs) :
    Enters P g ∧ Calls P g vs.toArray E.w fun e w' => ∃ v E', e = .returned v ∧ E'.w = w' ∧ Stepped E w0 okb s.mem s.nx r v E' := by
  obtain ⟨id, off, len, sz, xs, ys, rfl, hg, hol, hlen, hRv, rfl⟩ := hy
  obtain ⟨hen, _, hmut⟩ := hR g _ _ hRv
  obtain ⟨e1, hrev⟩ := hmut _ _ rfl
  obtain rfl : ys = ((xs.drop off).take len).reverse := by simpa using e1
  refine ⟨hen, ?_⟩
  obtain ⟨x, rfl⟩ : ∃ x, vs = [x] := List.length_eq_one_iff.1 hvs.1
  have hx := hvs.2 0 _ x rfl rfl
  rcases hx.own_inv.2 with ⟨hl, rfl, h0, h1⟩ | ⟨b, o, z, cap, hl, rfl, hc, c0, t0, f0, hb0, hroom⟩
  · omega
  · have hzz := row_loc hM (.inl hg) hl
    subst hzz
    have hr := (hM.arr id _ hg).2
    simp only [ArrRel, hl] at hr
    obtain ⟨c, t, hb, hbase, hnok, hsz, _, hcells⟩ := hr
    have hwin : (off + len) * z ≤ xs.length * z := Nat.mul_le_mul_right z hol
    rw [Nat.add_mul] at hwin
    have one : ∀ k v, o + off * z ≤ k → k < o + off * z + len * z → c[k]? = some v → v.oneCell' = true := by
      intro k v h1 h2 h3
      have hz0 : 0 < z := by
        rcases Nat.eq_zero_or_pos z with e | e
        · subst e; simp only [Nat.mul_zero] at h1 h2; omega
        · exact e
      have hd : (k - o) / z < xs.length := by
        rw [Nat.div_lt_iff_lt_mul hz0]; omega
      have hrow : xs[(k - o) / z]? = some xs[(k - o) / z] := List.getElem?_eq_getElem hd
      obtain ⟨q1, q2⟩ := hcells _ _ hrow
      obtain ⟨y, q3, q4, _⟩ := q2 ((k - o) % z) _ (List.getElem?_eq_getElem (by rw [q1]; exact Nat.mod_lt _ hz0))
      have : o + (k - o) / z * z + (k - o) % z = k := by have := Nat.div_add_mod' (k - o) z; omega
      rw [this, h3] at q3
      obtain rfl := Option.some.inj q3
      exact q4
    refine (hrev b (o + off * z) len cap c t E.w hlen.1 hlen.2 hc hb (by omega) one).mono ?_
    rintro e w' ⟨rfl, q, c', rfl, hs', hin, hout⟩
    obtain ⟨hle1, hF1, hat, hmem⟩ := set_block (drawN_frm hF q) (drawN_mem hM q) (c' := c') hg rfl hl hb hbase hnok hs'
    refine ⟨.tuple #[], (E.drawN q).set b c', rfl, rfl, (drawN_le E q).trans hle1, fun id' => ⟨.inl, fun h => h.elim (fun h => h) (fun h => by simp only [mutRes] at h; omega)⟩, Nat.le_refl _, hF1, hmem _ ?_, .tup [] [] rfl (by simp)⟩
    simp only [ArrRel]
    rw [show ((E.drawN q).set b c').loc id = some (b, o, z) from hl]
    refine ⟨c', t, hat, hbase, hnok, by rw [mir_len hol, hs']; exact hsz, rfl, ?_⟩
    intro k row hk
    rw [mir_get hol] at hk
    obtain ⟨q1, q2⟩ := hcells _ _ hk
    refine ⟨q1, fun j a hj => ?_⟩
    obtain ⟨y, q3, q4, q5⟩ := q2 j a hj
    refine ⟨y, ?_, q4, q5.mono ((drawN_le E q).trans hle1).ok ((drawN_le E q).trans hle1).blk⟩
    rw [← q3]
    have hjz : j < z := by rw [← q1]; exact (List.getElem?_eq_some_iff.1 hj).1
    unfold mir
    split
    · rename_i hkw
      have h1 := hin (k - off) j (by omega) hjz
      have e1 : off * z + (k - off) * z = k * z := by rw [← Nat.add_mul]; congr 1; omega
      have e2 : off * z + (len - 1 - (k - off)) * z = (off + (len - 1 - (k - off))) * z := by rw [Nat.add_mul]
      rw [show o + off * z + (k - off) * z + j = o + k * z + j by omega] at h1
      rw [h1]
      congr 1
      omega
    · rename_i hkw
      refine hout _ ?_
      by_cases hlt : k < off
      · have := idx_lt hlt hjz
        left; omega
      · have : (off + len) * z ≤ k * z := Nat.mul_le_mul_right z (by omega)
        rw [Nat.add_mul] at this
        right; omega

theorem call_sound {P : Program} {R : CallRel} (hR : RSound P R) {E : Env} {w0 : World} {okb : Nat → Prop} {s : AS} {g : FuncId} {as : List AV} {vs : List Value} {r : Res} (hF : Frm E w0 okb) (hM : MemRel E w0.heap.size s.mem)
    (hy : CallYields R s g as r) (hvs : Reps E as vs) (hid : ∀ id, s.nx ≤ id → id < r.nx → ¬ E.al id) :
    Enters P g ∧ Calls P g vs.toArray E.w fun e w' => ∃ v E', e = .returned v ∧ E'.w = w' ∧ Stepped E w0 okb s.mem s.nx r v E' := by
  rcases hy with hy | hy
  · exact call_sound0 hR hF hM hy hvs hid
  · exact mut_sound hR hF hM hy hvs

/-- What an operation yields. -/
def AYields (P : Program) (R : CallRel) (o : Oper) (s : AS) (r : Res) : Prop :=
  match o.op with
  | .call ⟨.value f, args, ts⟩ => ∃ x, callee s ⟨.value f, args, ts⟩ = some x ∧ CallYields R s x.1 x.2 r
  | _ => ev P o s = some r

theorem aop_yields {P : Program} {R : CallRel} {o : Oper} {s : AS} {K : Res → Prop} (h : aop P R o s K) : ∃ r, AYields P R o s r ∧ K r := by
  obtain ⟨dst, op, type, pos, after, guard⟩ := o
  have other : optK (ev P ⟨dst, op, type, pos, after, guard⟩ s) K → ∃ r, ev P ⟨dst, op, type, pos, after, guard⟩ s = some r ∧ K r := by
    intro h
    unfold optK at h
    split at h
    · rename_i r hr; exact ⟨r, hr, h⟩
    · exact h.elim
  cases op with
  | call c =>
    obtain ⟨cl, args, ts⟩ := c
    cases cl with
    | value f =>
      unfold aop at h
      simp only [optK] at h
      split at h
      · rename_i x hx
        obtain ⟨r, h1, h2⟩ := acall_yields h
        exact ⟨r, ⟨x, hx, h1⟩, h2⟩
      · exact h.elim
    | _ => exact other h
  | _ => exact other h

theorem run_callFunc {P : Program} {g : FuncId} (h : Enters P g) (vs : Array Value) (w : World) : (callFunc g vs).run P w = .ok (.enter g vs) w := by
  obtain ⟨fn, c, h1, h2, h3⟩ := h
  simp [callFunc, Sem.run_bind, run_program, Result.andThen_ok, h1, h2, by simpa using h3]

theorem callee_sound {E : Env} {P : Program} {s : AS} {a : Act} (hT : TmOk E s a) {c : Call} {x : FuncId × List AV} (h : callee s c = some x) (dst : Option Tmp) (type : TypeId) (pos : String) (after : Array Edge) (guard : Option (Nat × Bool)) (w : World) :
    ∃ vs : List Value, Reps E x.2 vs ∧ (execOp a.eval ⟨dst, .call c, type, pos, after, guard⟩).run P w = (callFunc x.1 vs.toArray).run P w := by
  unfold callee at h
  split at h
  · rename_i f hf
    split at h
    · rename_i g first cap as hfn has
      obtain rfl := Option.some.inj h
      obtain ⟨fv, cv, he, r1, r2⟩ := (opr_sound hT hfn).fn_inv
      have r3 := oprs_sound hT has
      refine ⟨fv ++ c.args.toList.map a.eval ++ cv, ⟨by simp [r1.1, r2.1, r3.1], fun j q v hj hv => ?_⟩, ?_⟩
      · rw [List.append_assoc] at hj hv
        by_cases c1 : j < first.length
        · rw [List.getElem?_append_left c1] at hj
          rw [List.getElem?_append_left (by rw [r1.1]; exact c1)] at hv
          exact r1.2 j q v hj hv
        · rw [List.getElem?_append_right (by omega)] at hj
          rw [List.getElem?_append_right (by rw [r1.1]; omega), r1.1] at hv
          by_cases c2 : j - first.length < as.length
          · rw [List.getElem?_append_left c2] at hj
            rw [List.getElem?_append_left (by rw [r3.1]; exact c2)] at hv
            exact r3.2 _ q v hj hv
          · rw [List.getElem?_append_right (by omega)] at hj
            rw [List.getElem?_append_right (by rw [r3.1]; omega), r3.1] at hv
            exact r2.2 _ q v hj hv
      · simp only [execOp, resolve, hf, he, Deferred.ofValue, Sem.run_bind, Sem.run_pure, Result.andThen_ok, invoke]
        congr 2
        exact Array.ext' (by simp)
    · exact absurd h (by simp)
  · exact absurd h (by simp)

/-- An operation. -/
theorem op_sound {P : Program} {R : CallRel} (hR : RSound P R) {E : Env} {w0 : World} {okb : Nat → Prop} {s : AS} {o : Oper} {a : Act} {r : Res} (hF : Frm E w0 okb) (hM : MemRel E w0.heap.size s.mem) (hT : TmOk E s a)
    (h : AYields P R o s r) (hid : ∀ id, s.nx ≤ id → id < r.nx → ¬ E.al id) {K : Act → World → Prop} {Q : Exit → Act → World → Prop} (hK : ∀ x E', Stepped E w0 okb s.mem s.nx r x E' → K (a.put o.dst x) E'.w) : o.wp P a E.w K Q := by
  unfold AYields at h
  split at h
  · rename_i f args ts hop
    obtain ⟨x, hx, hy⟩ := h
    obtain ⟨dst, op, type, pos, after, guard⟩ := o
    obtain rfl : op = _ := hop
    obtain ⟨vs, hvs, hrun⟩ := callee_sound (P := P) hT hx dst type pos after guard E.w
    obtain ⟨hen, hc⟩ := call_sound hR hF hM hy hvs hid
    unfold Oper.wp
    rw [hrun, run_callFunc hen, Oper.upon_enter]
    refine hc.mono ?_
    rintro e w' ⟨v, E', rfl, rfl, hS⟩
    exact hK v E' hS
  · obtain ⟨x, E', hrun, hS⟩ := ev_sound hF hM hT h hid
    unfold Oper.wp
    rcases hrun with hrun | ⟨hrun, rfl⟩
    · rw [hrun, Oper.upon_value]; exact hK x E' hS
    · rw [hrun, Oper.upon_skip]; exact hK undef E' hS
end Go.Ab
end

section
namespace Go.Ab
open Go.RowKit (Below)

theorem get_append {α : Type} (x y : List (Nat × α)) (i : Nat) : get (x ++ y) i = match get x i with | some v => some v | none => get y i := by
  induction x with
  | nil => rfl
  | cons p x ih =>
    obtain ⟨u, v⟩ := p
    simp only [List.cons_append, get_cons]
    split
    · rfl
    · exact ih
theorem get_append_congr {α : Type} {x y y' : List (Nat × α)} {i : Nat} (h : get y' i = get y i) : get (x ++ y') i = get (x ++ y) i := by
  rw [get_append, get_append, h]

theorem oprs_foot {s s' : AS} : ∀ {l : List Operand} {vs : List AV}, (∀ x, x ∈ l → opr s' x = opr s x) → oprs s l = some vs → oprs s' l = some vs
  | [], _, _, h => h
  | x :: r, vs, hx, h => by
    unfold oprs at h ⊢
    rw [hx x List.mem_cons_self]
    split at h
    · rename_i v vs' h1 h2
      rw [h1, oprs_foot (fun y hy => hx y (List.mem_cons_of_mem _ hy)) h2]
      exact h
    · exact absurd h (by simp)
theorem oprs2_foot {s s' : AS} : ∀ {l : List (Nat × Operand)} {vs : List (Nat × AV)}, (∀ x, x ∈ l.map (·.2) → opr s' x = opr s x) → oprs2 s l = some vs → oprs2 s' l = some vs
  | [], _, _, h => h
  | (i, x) :: r, vs, hx, h => by
    unfold oprs2 at h ⊢
    rw [hx x (by simp)]
    split at h
    · rename_i v vs' h1 h2
      rw [h1, oprs2_foot (fun y hy => hx y (by simp only [List.map_cons, List.mem_cons]; exact .inr hy)) h2]
      exact h
    · exact absurd h (by simp)

theorem pureCell_foot {mem mem' : List (Nat × Arr)} {c : AV} {x : AV × List (Nat × Arr) × List Nat} (h : pureCell mem c = some x) (hm : ∀ id, id ∈ x.2.2 → get mem' id = get mem id) : pureCell mem' c = some x := by
  unfold pureCell at h ⊢
  split at h
  · rename_i id off len
    have key : get mem' id = get mem id := by
      split at h
      · split at h
        · obtain rfl := Option.some.inj h; exact hm id (by simp)
        · exact absurd h (by simp)
      · split at h
        · obtain rfl := Option.some.inj h; exact hm id (by simp)
        · exact absurd h (by simp)
      · exact absurd h (by simp)
    simp only [key]
    exact h
  all_goals exact h

theorem pureCells_foot : ∀ {cs : List AV} {mem mem' : List (Nat × Arr)} {x : List AV × List (Nat × Arr) × List Nat}, pureCells mem cs = some x → (∀ id, id ∈ x.2.2 → get mem' id = get mem id) → pureCells mem' cs = some x
  | [], _, _, _, h, _ => h
  | c :: r, mem, mem', x, h, hm => by
    unfold pureCells at h ⊢
    split at h
    · rename_i c' d rd h1
      split at h
      · rename_i r' d' rd' h2
        obtain rfl := Option.some.inj h
        rw [pureCell_foot h1 (fun id hi => hm id (by simp at hi ⊢; exact .inl hi))]
        simp only
        rw [pureCells_foot h2 (fun id hi => get_append_congr (hm id (by simp at hi ⊢; exact .inr hi)))]
      · exact absurd h (by simp)
    · exact absurd h (by simp)

theorem pureRows_foot : ∀ {cs : List (List AV)} {mem mem' : List (Nat × Arr)} {x : List (List AV) × List (Nat × Arr) × List Nat}, pureRows mem cs = some x → (∀ id, id ∈ x.2.2 → get mem' id = get mem id) → pureRows mem' cs = some x
  | [], _, _, _, h, _ => h
  | c :: r, mem, mem', x, h, hm => by
    unfold pureRows at h ⊢
    split at h
    · rename_i c' d rd h1
      split at h
      · rename_i r' d' rd' h2
        obtain rfl := Option.some.inj h
        rw [pureCells_foot h1 (fun id hi => hm id (by simp at hi ⊢; exact .inl hi))]
        simp only
        rw [pureRows_foot h2 (fun id hi => get_append_congr (hm id (by simp at hi ⊢; exact .inr hi)))]
      · exact absurd h (by simp)
    · exact absurd h (by simp)

theorem behind_foot {s s' : AS} {p : AV} {x : List AV × List Nat} (h : behind s p = some x) (hm : ∀ id, id ∈ x.2 → get s'.mem id = get s.mem id) : behind s' p = some x := by
  unfold behind at h ⊢
  split at h
  · exact h
  · rename_i id i j
    have key : get s'.mem id = get s.mem id := by
      split at h
      · split at h
        · obtain rfl := Option.some.inj h; exact hm id (by simp)
        · exact absurd h (by simp)
      · split at h
        · obtain rfl := Option.some.inj h; exact hm id (by simp)
        · exact absurd h (by simp)
      · split at h
        · obtain rfl := Option.some.inj h; exact hm id (by simp)
        · exact absurd h (by simp)
      · exact absurd h (by simp)
    simp only [key]
    exact h
  · exact absurd h (by simp)

theorem source_foot {s s' : AS} {n : Nat} {p : AV} {x : List (List AV) × List Nat} (h : source s n p = some x) (hm : ∀ id, id ∈ x.2 → get s'.mem id = get s.mem id) : source s' n p = some x := by
  unfold source at h ⊢
  split at h
  · exact h
  · exact h
  · rename_i id off len
    have key : get s'.mem id = get s.mem id := by
      split at h
      · split at h
        · obtain rfl := Option.some.inj h; exact hm id (by simp)
        · exact absurd h (by simp)
      · split at h
        · obtain rfl := Option.some.inj h; exact hm id (by simp)
        · exact absurd h (by simp)
      · exact absurd h (by simp)
    simp only [key]
    exact h
  · exact h
  · exact absurd h (by simp)

theorem loadE_foot {P : Program} {s s' : AS} {t : TypeId} {p : AV} {r : Res} (h : loadE P s t p = some r) (hn : s'.nx = s.nx) (hm : ∀ id, id ∈ r.rd → get s'.mem id = get s.mem id) : loadE P s' t p = some r := by
  unfold loadE at h ⊢
  split at h
  · rename_i a cs rd h1 h2
    split at h
    · rename_i v hv
      obtain rfl := Option.some.inj h
      rw [h1, behind_foot h2 (fun id hi => hm id hi)]
      simp only [hv, hn]
    · exact absurd h (by simp)
  · exact absurd h (by simp)

theorem storeE_foot {P : Program} {s s' : AS} {t : TypeId} {p v : AV} {r : Res} (h : storeE P s t p v = some r) (hn : s'.nx = s.nx) (hm : ∀ id, id ∈ r.rd → get s'.mem id = get s.mem id) : storeE P s' t p v = some r := by
  unfold storeE at h ⊢
  split at h
  · rename_i z n vs id i j h1 h2
    try rw [h1, h2]
    try simp only
    split at h
    · rename_i hl
      rw [if_pos hl]
      split at h
      · rename_i cs hg
        split at h
        · rename_i hi
          split at h
          · rename_i cs' hc
            obtain rfl := Option.some.inj h
            rw [hm id (by simp), hg]
            simp only [hi, if_true, hc, hn]
          · exact absurd h (by simp)
        · exact absurd h (by simp)
      · rename_i sz xs hg
        split at h
        · rename_i vs' d rd cs h3 h4
          split at h
          · rename_i hd
            split at h
            · rename_i cs' hc
              obtain rfl := Option.some.inj h
              rw [hm id (by simp), hg]
              simp only [pureCells_foot h3 (fun id hi => hm id (by simp at hi ⊢; exact .inr hi)), h4, hd, if_true, hc, hn]
            · exact absurd h (by simp)
          · exact absurd h (by simp)
        · exact absurd h (by simp)
      · exact absurd h (by simp)
    · exact absurd h (by simp)
  · exact absurd h (by simp)

theorem buildSliceE_foot {P : Program} {s s' : AS} {t : TypeId} {len : Nat} {ps : List (Nat × AV)} {r : Res} (h : buildSliceE P s t len ps = some r) (hn : s'.nx = s.nx) (hm : ∀ id, id ∈ r.rd → get s'.mem id = get s.mem id) : buildSliceE P s' t len ps = some r := by
  unfold buildSliceE at h ⊢
  split at h
  · rename_i e he
    try simp only [he]
    split at h
    · rename_i g n z h1 h2
      try simp only [h1, h2]
      split at h
      · rename_i hc
        rw [if_pos hc]
        split at h
        · rename_i xs hx
          try simp only [hx]
          split at h
          · rename_i xs' d rd hp
            obtain rfl := Option.some.inj h
            rw [pureRows_foot hp (fun id hi => hm id hi)]
            simp only [hn]
          · exact absurd h (by simp)
        · exact absurd h (by simp)
      · exact absurd h (by simp)
    · exact absurd h (by simp)
  · exact absurd h (by simp)

theorem sliceE_foot {P : Program} {s s' : AS} {t : TypeId} {x : AV} {lo hi : Option AV} {r : Res} (h : sliceE P s t x lo hi = some r) (hn : s'.nx = s.nx) (hm : ∀ id, id ∈ r.rd → get s'.mem id = get s.mem id) : sliceE P s' t x lo hi = some r := by
  unfold sliceE at h ⊢
  rw [hn]
  split at h
  · exact h
  · exact h
  · rename_i id off len
    have key : get s'.mem id = get s.mem id := by
      split at h
      · split at h
        · obtain rfl := Option.some.inj h; exact hm id (by simp)
        · exact absurd h (by simp)
      · split at h
        · obtain rfl := Option.some.inj h; exact hm id (by simp)
        · exact absurd h (by simp)
      · exact absurd h (by simp)
    simp only [key]
    exact h
  · exact absurd h (by simp)

theorem indexSlE_foot {P : Program} {s s' : AS} {t : TypeId} {x i : AV} {r : Res} (h : indexSlE P s t x i = some r) (hn : s'.nx = s.nx) (hm : ∀ id, id ∈ r.rd → get s'.mem id = get s.mem id) : indexSlE P s' t x i = some r := by
  unfold indexSlE at h ⊢
  rw [hn]
  split at h
  · rename_i k i z n hz
    try simp only [hz]
    split at h
    · exact h
    · rename_i id off len
      have key : get s'.mem id = get s.mem id := by
        split at h
        · split at h
          · obtain rfl := Option.some.inj h; exact hm id (by simp)
          · exact absurd h (by simp)
        · split at h
          · obtain rfl := Option.some.inj h; exact hm id (by simp)
          · exact absurd h (by simp)
        · exact absurd h (by simp)
      simp only [key]
      exact h
    · exact absurd h (by simp)
  · exact absurd h (by simp)

theorem indexAddrE_foot {P : Program} {s s' : AS} {t : TypeId} {x i : AV} {r : Res} (h : indexAddrE P s t x i = some r) (hn : s'.nx = s.nx) (hm : ∀ id, id ∈ r.rd → get s'.mem id = get s.mem id) : indexAddrE P s' t x i = some r := by
  unfold indexAddrE at h ⊢
  split at h
  · rename_i n e ht
    unfold arrAddrE at h ⊢
    try simp only [ht]
    rw [hn]
    exact h
  · rename_i ht
    try simp only [ht]
    exact indexSlE_foot h hn hm

theorem appendE_foot {P : Program} {s s' : AS} {t : TypeId} {x y : AV} {ok : Bool} {r : Res} (h : appendE P s t x y ok = some r) (hn : s'.nx = s.nx) (hm : ∀ id, id ∈ r.rd → get s'.mem id = get s.mem id) : appendE P s' t x y ok = some r := by
  unfold appendE at h ⊢
  rw [hn]
  split at h
  · rename_i e he
    try simp only [he]
    split at h
    · rename_i g n b z h1 h2 h3
      try simp only [h1, h2, h3]
      split at h
      · rename_i es rd hs
        split at h
        · rename_i hc
          split at h
          · split at h
            · rename_i hl
              obtain rfl := Option.some.inj h
              rw [source_foot hs (fun id hi => hm id hi)]
              simp only [hc, and_self, if_true, hl]
            · exact absurd h (by simp)
          · rename_i id off len
            split at h
            · rename_i sz xs hg
              split at h
              · rename_i hl
                obtain rfl := Option.some.inj h
                rw [source_foot hs (fun id hi => hm id (by simp at hi ⊢; exact .inr hi))]
                simp only
                rw [hm id (by simp), hg]
                simp only
                rw [if_pos hc, if_pos hl]
              · exact absurd h (by simp)
            · exact absurd h (by simp)
          · exact absurd h (by simp)
        · exact absurd h (by simp)
      · exact absurd h (by simp)
    · exact absurd h (by simp)
  · exact absurd h (by simp)

theorem copyE_foot {P : Program} {s s' : AS} {t : TypeId} {x y : AV} {r : Res} (h : copyE P s t x y = some r) (hn : s'.nx = s.nx) (hm : ∀ id, id ∈ r.rd → get s'.mem id = get s.mem id) : copyE P s' t x y = some r := by
  unfold copyE at h ⊢
  rw [hn]
  split at h
  · rename_i g n id off len hz
    try simp only [hz]
    split at h
    · rename_i sz xs es rd hg hs
      split at h
      · rename_i hc
        obtain rfl := Option.some.inj h
        rw [source_foot hs (fun id hi => hm id (by simp at hi ⊢; exact .inr hi)), hm id (by simp), hg]
        simp only
        rw [if_pos hc]
      · exact absurd h (by simp)
    · exact absurd h (by simp)
  · exact absurd h (by simp)

theorem builtinE_foot {P : Program} {s s' : AS} {b : Builtin} {ts : List TypeId} {xs : List AV} {r : Res} (h : builtinE P s b ts xs = some r) (hn : s'.nx = s.nx) (hm : ∀ id, id ∈ r.rd → get s'.mem id = get s.mem id) : builtinE P s' b ts xs = some r := by
  unfold builtinE at h ⊢
  split at h
  · unfold lenE at h ⊢; rw [hn]; exact h
  · exact appendE_foot h hn hm
  · exact copyE_foot h hn hm
  · rw [hn]; exact h
  · rw [hn]; exact h
  · exact absurd h (by simp)

theorem ev_foot {P : Program} {s s' : AS} {o : Oper} {r : Res} (h : ev P o s = some r) (hn : s'.nx = s.nx) (ho : ∀ x, x ∈ o.op.operands.toList → opr s' x = opr s x)
    (hm : ∀ id, id ∈ r.rd → get s'.mem id = get s.mem id) : ev P o s' = some r := by
  obtain ⟨dst, op, type, pos, after, guard⟩ := o
  unfold ev at h ⊢
  simp only at h ho ⊢
  split at h
  · rw [ho _ (by simp [Op.operands]), hn]; exact h
  · rw [ho _ (by simp [Op.operands]), hn]; exact h
  · rw [ho _ (by simp [Op.operands]), ho _ (by simp [Op.operands]), ho _ (by simp [Op.operands]), hn]; exact h
  · unfold allocE at h ⊢; rw [hn]; exact h
  · rw [ho _ (by simp [Op.operands])]; unfold boxE at h ⊢; rw [hn]; exact h
  · rename_i t ps
    split at h
    · rename_i vs hv
      rw [oprs2_foot (fun x hx => ho x (by simpa [Op.operands] using hx)) hv]
      unfold buildE at h ⊢; rw [hn]; exact h
    · exact absurd h (by simp)
  · rename_i t n ps
    split at h
    · rename_i vs hv
      rw [oprs2_foot (fun x hx => ho x (by simpa [Op.operands] using hx)) hv]
      exact buildSliceE_foot h hn hm
    · exact absurd h (by simp)
  · rw [ho _ (by simp [Op.operands])]
    split at h
    · exact loadE_foot h hn hm
    · exact absurd h (by simp)
  · rw [ho _ (by simp [Op.operands]), ho _ (by simp [Op.operands])]
    split at h
    · exact storeE_foot h hn hm
    · exact absurd h (by simp)
  · rw [ho _ (by simp [Op.operands]), hn]; exact h
  · rw [ho _ (by simp [Op.operands]), ho _ (by simp [Op.operands]), hn]; exact h
  · rw [ho _ (by simp [Op.operands]), hn]; exact h
  · rw [ho _ (by simp [Op.operands])]; unfold convE at h ⊢; rw [hn]; exact h
  · rename_i f a b
    split at h
    · rename_i va vb h1 h2
      rw [oprs_foot (fun x hx => ho x (by simp only [Op.operands, Array.toList_append, List.mem_append]; exact .inl hx)) h1, oprs_foot (fun x hx => ho x (by simp only [Op.operands, Array.toList_append, List.mem_append]; exact .inr hx)) h2, hn]
      exact h
    · exact absurd h (by simp)
  · rw [ho _ (by simp [Op.operands]), ho _ (by simp [Op.operands])]; unfold makeSliceE at h ⊢; rw [hn]; exact h
  · rw [ho _ (by simp [Op.operands])]
    split at h
    · exact sliceE_foot h hn hm
    · exact absurd h (by simp)
  · rw [ho _ (by simp [Op.operands]), ho _ (by simp [Op.operands])]
    split at h
    · exact sliceE_foot h hn hm
    · exact absurd h (by simp)
  · rw [ho _ (by simp [Op.operands]), ho _ (by simp [Op.operands])]
    split at h
    · exact sliceE_foot h hn hm
    · exact absurd h (by simp)
  · rw [ho _ (by simp [Op.operands]), ho _ (by simp [Op.operands]), ho _ (by simp [Op.operands])]
    split at h
    · exact sliceE_foot h hn hm
    · exact absurd h (by simp)
  · rw [ho _ (by simp [Op.operands])]; unfold fieldAddrE at h ⊢; rw [hn]; exact h
  · rw [ho _ (by simp [Op.operands])]; unfold fieldE at h ⊢; rw [hn]; exact h
  · rw [ho _ (by simp [Op.operands]), ho _ (by simp [Op.operands])]
    split at h
    · exact indexAddrE_foot h hn hm
    · exact absurd h (by simp)
  · rw [ho _ (by simp [Op.operands]), ho _ (by simp [Op.operands])]; unfold indexE at h ⊢; rw [hn]; exact h
  · rw [ho _ (by simp [Op.operands]), hn]; exact h
  · rename_i c
    split at h
    · rename_i b hb
      try simp only [hb]
      split at h
      · rename_i vs hv
        rw [oprs_foot (fun x hx => ho x (by simp [Op.operands, Call.operands, hb]; simpa using hx)) hv]
        exact builtinE_foot h hn hm
      · exact absurd h (by simp)
    · exact absurd h (by simp)
  · exact absurd h (by simp)
end Go.Ab
end
