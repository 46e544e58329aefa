/- The abstract interpreter: calls. -/
import Derived.Test.YtmdeiagmlabfmaaDoorAb17
import Derived.Deep.Draws
set_option linter.unusedVariables false
set_option linter.unusedSimpArgs false
set_option linter.unusedSectionVars false

section
namespace Go.Ab
open Go.RowKit (Below)

/-- The result of a call, by what was there before (h blocks): the blocks that are handed over. -/
inductive RR (w : World) (ok : Nat → Prop) (h : Nat) : AV → Value → List Nat → Prop
  | pure {a : AV} {v : Value} (hp : RepP w ok a v) : RR w ok h a v []
  | frNil (sz : Nat) : RR w ok h (.fr sz []) (.slice none 0 0) []
  | fr (sz : Nat) (xs : List (List AV)) (b o cap : Nat) (c : Array Value) (t : TypeId) (hb : w.heap[b]? = some (.cells c t (0, 0))) (hh : h ≤ b) (hl : xs.length ≤ cap) (hs : o + cap * sz ≤ c.size)
      (hc : Cells w ok c o sz xs) : RR w ok h (.fr sz xs) (.slice (some ⟨b, o, none⟩) xs.length cap) [b]

inductive RRs (w : World) (ok : Nat → Prop) (h : Nat) : List AV → List Value → List Nat → Prop
  | nil : RRs w ok h [] [] []
  | cons {a : AV} {v : Value} {as : List AV} {vs : List Value} {x y : List Nat} (ha : RR w ok h a v x) (hr : RRs w ok h as vs y) : RRs w ok h (a :: as) (v :: vs) (x ++ y)
  | agg {cs : List AV} {cv : List Value} {as : List AV} {vs : List Value} {x y : List Nat} (h1 : ∀ v, v ∈ cv → v.oneCell' = true) (ha : RRs w ok h cs cv x) (hr : RRs w ok h as vs y) :
      RRs w ok h (.agg cs :: as) (.agg cv.toArray :: vs) (x ++ y)

/-- What a call's result is. -/
def ResOk (w w' : World) (ok : Nat → Prop) (r : AV) (v : Value) : Prop :=
  ∃ bs rs vs, bs.Nodup ∧ RRs w' (fun b => (ok b ∨ (w.heap.size ≤ b ∧ b < w'.heap.size)) ∧ b ∉ bs) w.heap.size rs vs bs ∧ r = (match rs with | [a] => a | _ => .tup rs) ∧ v = (match vs with | [a] => a | _ => .tuple vs.toArray)

def Enters (P : Program) (f : FuncId) : Prop := ∃ fn c, P.funcs[f]? = some fn ∧ fn.body = some c ∧ (fn.name == "runtime.NumGoroutine") = false

def RepsP (w : World) (ok : Nat → Prop) (as : List AV) (vs : List Value) : Prop := vs.length = as.length ∧ ∀ (j : Nat) (a : AV) (v : Value), as[j]? = some a → vs[j]? = some v → RepP w ok a v

/-- f turns n elements of sz cells round, in place. -/
def Reverses (P : Program) (f : FuncId) (sz : Nat) : Prop := ∀ (b o n cap : Nat) (c : Array Value) (t : TypeId) (w : World), 0 < n → n ≤ 9223372036854775807 → n ≤ cap → w.heap[b]? = some (.cells c t (0, 0)) → o + n * sz ≤ c.size →
  (∀ k v, o ≤ k → k < o + n * sz → c[k]? = some v → v.oneCell' = true) →
  Calls P f #[.slice (some ⟨b, o, none⟩) n cap] w fun e w' => e = .returned (.tuple #[]) ∧ ∃ q c', w' = (w.drewN q).setRow b c' ∧ c'.size = c.size ∧
    (∀ i j, i < n → j < sz → c'[o + i * sz + j]? = c[o + (n - 1 - i) * sz + j]?) ∧ (∀ k, k < o ∨ o + n * sz ≤ k → c'[k]? = c[k]?)

/-- What it means that f hands back r. -/
def Means (P : Program) (f : FuncId) (as : List AV) (r : AV) : Prop := Enters P f ∧ (∀ (w : World) (ok : Nat → Prop) (vs : List Value), (∀ b, ok b → b < w.heap.size) → RepsP w ok as vs →
  Calls P f vs.toArray w fun e w' => ∃ v, e = .returned v ∧ Below w.heap.size w w' ∧ ResOk w w' ok r v) ∧ ∀ sz xs, as = [.fr sz xs] → r = .fr sz xs.reverse ∧ Reverses P f sz

def RSound (P : Program) (R : CallRel) : Prop := ∀ f as r, R f as r → Means P f as r

theorem below_le {E : Env} {w' : World} (hlt : ∀ b, E.ok b → b < E.w.heap.size) (hB : Below E.w.heap.size E.w w') : E.Le { E with w := w' } where
  ok := fun _ h => h
  blk := fun b h => hB.block b (hlt b h)
  al := fun _ h => ⟨h, rfl⟩
  sz := fun b c t f h => ⟨c, f, (hB.block b (lt_of_blk h)).trans h, rfl⟩

theorem mut_fact {E : Env} {base : Nat} {mem : List (Nat × Arr)} (hM : MemRel E base mem) {i : Nat} {arr : Arr} {b o z : Nat} (hg : get mem i = some arr) (hm : arr.isMut = true) (hl : E.loc i = some (b, o, z)) :
    ¬ E.ok b ∧ b < E.w.heap.size ∧ base ≤ b := by
  have hr := (hM.arr i arr hg).2
  cases arr with
  | row sz xs => simp only [ArrRel, hl] at hr; obtain ⟨_, _, hb, h1, h, _⟩ := hr; exact ⟨h, lt_of_blk hb, h1⟩
  | box cs => obtain ⟨b2, c2, t2, h2, hb, h1, h, _⟩ := hr; rw [hl] at h2; obtain ⟨rfl, -⟩ := Prod.mk.inj (Option.some.inj h2); exact ⟨h, lt_of_blk hb, h1⟩
  | frz _ _ => cases hm
  | dead => cases hm

/-- Behind a call: what the callee made may be read. -/
def Env.after (E : Env) (w' : World) (bs : List Nat) : Env := { E with w := w', ok := fun b => (E.ok b ∨ (E.w.heap.size ≤ b ∧ b < w'.heap.size)) ∧ b ∉ bs }

theorem after_env {E : Env} {w0 w' : World} {okb : Nat → Prop} {mem : List (Nat × Arr)} (hF : Frm E w0 okb) (hM : MemRel E w0.heap.size mem) (hB : Below E.w.heap.size E.w w') {bs : List Nat} (hbs : ∀ b, b ∈ bs → E.w.heap.size ≤ b) :
    E.Le (E.after w' bs) ∧ Frm (E.after w' bs) w0 okb ∧ MemRel (E.after w' bs) w0.heap.size mem := by
  have hle : E.Le (E.after w' bs) := {
    ok := fun b h => ⟨.inl h, fun hb => by have := hbs b hb; have := hF.lt b h; omega⟩
    blk := fun b h => hB.block b (hF.lt b h)
    al := fun _ h => ⟨h, rfl⟩
    sz := fun b c t f h => ⟨c, f, (hB.block b (lt_of_blk h)).trans h, rfl⟩ }
  refine ⟨hle, ⟨hF.below.trans (hB.mono hF.below.size), fun b hb h => ?_, fun b h => ?_⟩, hM.mono hle fun i arr hg hm b o z hl => ?_⟩
  · rcases h.1 with h1 | ⟨h1, _⟩
    · exact hF.okb b hb h1
    · have := hF.below.size; omega
  · rcases h.1 with h1 | ⟨_, h1⟩
    · exact Nat.lt_of_lt_of_le (hF.lt b h1) hB.size
    · exact h1
  · obtain ⟨h1, h2, h3⟩ := mut_fact hM hg hm hl
    refine ⟨hB.block b h2, ?_⟩
    rintro ⟨h4 | ⟨h4, _⟩, _⟩
    · exact h1 h4
    · omega

/-- A block that is handed over, under a new number. -/
theorem import_one {E : Env} {w0 : World} {okb : Nat → Prop} {mem : List (Nat × Arr)} {nx : Nat} {a : AV} {v : Value} {h : Nat} {bs : List Nat} (hF : Frm E w0 okb) (hM : MemRel E w0.heap.size mem) (hid : ∀ id, nx ≤ id → id < (impCell nx a).2.2 → ¬ E.al id)
    (hr : RR E.w E.ok h a v bs) (hno : ∀ b, b ∈ bs → ¬ E.ok b) (hbase : w0.heap.size ≤ h) (hfar : ∀ b, b ∈ bs → ∀ i arr b' o z, get mem i = some arr → arr.isMut = true → E.loc i = some (b', o, z) → b' ≠ b) :
    ∃ E', E'.w = E.w ∧ E'.ok = E.ok ∧ Stepped E w0 okb mem nx ⟨(impCell nx a).1, (impCell nx a).2.1, (impCell nx a).2.2, []⟩ v E' ∧
      ∀ i arr b' o z, get ((impCell nx a).2.1 ++ mem) i = some arr → arr.isMut = true → E'.loc i = some (b', o, z) → b' ∈ bs ∨ ∃ arr' o' z', get mem i = some arr' ∧ arr'.isMut = true ∧ E.loc i = some (b', o', z') := by
  cases hr with
  | pure hp =>
    have e : impCell nx a = (a, [], nx) := by cases a <;> first | rfl | cases hp
    rw [e]
    exact ⟨E, rfl, rfl, .same hF hM (.pure hp), fun i arr b' o z hg hm hl => .inr ⟨arr, o, z, hg, hm, hl⟩⟩
  | frNil sz =>
    have hid' : ¬ E.al nx := hid nx (Nat.le_refl _) (by simp [impCell])
    have hne : ∀ i, E.al i → i ≠ nx := by rintro i hi rfl; exact hid' hi
    refine ⟨E.nilNew nx, rfl, rfl, nil_new hF hM hid', fun i arr b' o z hg hm hl => ?_⟩
    simp only [impCell, List.cons_append, List.nil_append, get_cons] at hg
    split at hg
    · rename_i e
      subst e
      have : (E.nilNew nx).loc nx = none := if_pos rfl
      rw [this] at hl; cases hl
    · refine .inr ⟨arr, o, z, hg, hm, ?_⟩
      have : (E.nilNew nx).loc i = E.loc i := if_neg (hne i (hM.arr i arr hg).1)
      rwa [this] at hl
  | fr sz xs b o cap c t hb hh hl hs hc =>
    have hid' : ¬ E.al nx := hid nx (Nat.le_refl _) (by simp [impCell])
    have hne : ∀ i, E.al i → i ≠ nx := by rintro i hi rfl; exact hid' hi
    obtain ⟨hle, hM'⟩ := relabel (E' := E.takes nx b o sz) hM rfl rfl hid' (fun i hi => if_neg hi) (fun i h => .inl h)
    have hl2 : (E.takes nx b o sz).loc nx = some (b, o, sz) := if_pos rfl
    refine ⟨E.takes nx b o sz, rfl, rfl, ⟨hle, fun id => ⟨fun h => h.elim .inl (fun e => .inr (by simp only [impCell]; omega)), fun h => h.elim .inl (fun e => .inr (by simp only [impCell] at e; omega))⟩, by simp [impCell], ⟨hF.below, hF.okb, hF.lt⟩, ?_, ?_⟩, ?_⟩
    · refine hM'.cons (.inr rfl) ?_ (fun _ id' arr' b2 o2 z2 o3 z3 hne' hg' hm h2 h3 => ?_)
      · simp only [ArrRel, hl2]
        exact ⟨c, t, hb, by omega, hno b (by simp), by have := Nat.mul_le_mul_right sz hl; omega, trivial, hc⟩
      · rw [hl2] at h2
        obtain ⟨rfl, -⟩ := Prod.mk.inj (Option.some.inj h2)
        have : (E.takes nx b o sz).loc id' = E.loc id' := if_neg hne'
        rw [this] at h3
        exact hfar b (by simp) id' arr' b o3 z3 hg' hm h3 rfl
    · have := Rep.own (E := E.takes nx b o sz) nx 0 xs.length b o sz cap (.inr rfl) hl2 hl ⟨c, t, _, hb, by simpa using hs⟩
      simpa [impCell] using this
    · intro i arr b' o' z' hg hm hl'
      simp only [impCell, List.cons_append, List.nil_append, get_cons] at hg
      split at hg
      · rename_i e
        subst e
        rw [hl2] at hl'
        obtain ⟨rfl, -⟩ := Prod.mk.inj (Option.some.inj hl')
        exact .inl (by simp)
      · refine .inr ⟨arr, o', z', hg, hm, ?_⟩
        have : (E.takes nx b o sz).loc i = E.loc i := if_neg (hne i (hM.arr i arr hg).1)
        rwa [this] at hl'
end Go.Ab
end

section
namespace Go.Ab
open Go.RowKit (Below)

/-- What an import leaves: the old states' facts, and how the new numbers lie. -/
structure Imported (E : Env) (w0 : World) (okb : Nat → Prop) (mem : List (Nat × Arr)) (nx : Nat) (d : List (Nat × Arr)) (nx' : Nat) (bs : List Nat) (E' : Env) : Prop where
  w : E'.w = E.w
  ok : E'.ok = E.ok
  le : E.Le E'
  al : ∀ id, E'.al id ↔ E.al id ∨ (nx ≤ id ∧ id < nx')
  nx : nx ≤ nx'
  frm : Frm E' w0 okb
  mm : MemRel E' w0.heap.size (d ++ mem)
  far : ∀ i arr b' o z, get (d ++ mem) i = some arr → arr.isMut = true → E'.loc i = some (b', o, z) → b' ∈ bs ∨ ∃ arr' o' z', get mem i = some arr' ∧ arr'.isMut = true ∧ E.loc i = some (b', o', z')

theorem Imported.refl {E : Env} {w0 : World} {okb : Nat → Prop} {mem : List (Nat × Arr)} {nx : Nat} (hF : Frm E w0 okb) (hM : MemRel E w0.heap.size mem) : Imported E w0 okb mem nx [] nx [] E :=
  ⟨rfl, rfl, .refl E, fun id => ⟨.inl, fun h => h.elim (fun h => h) (fun h => by omega)⟩, Nat.le_refl _, hF, hM, fun i arr b' o z hg hm hl => .inr ⟨arr, o, z, hg, hm, hl⟩⟩

theorem Imported.trans {A B C : Env} {w0 : World} {okb : Nat → Prop} {mem d1 d2 : List (Nat × Arr)} {n0 n1 n2 : Nat} {x y : List Nat} (h : Imported A w0 okb mem n0 d1 n1 x B) (k : Imported B w0 okb (d1 ++ mem) n1 d2 n2 y C) :
    Imported A w0 okb mem n0 (d2 ++ d1) n2 (x ++ y) C where
  w := k.w.trans h.w
  ok := k.ok.trans h.ok
  le := h.le.trans k.le
  al id := by
    rw [k.al id, h.al id]
    have := h.nx; have := k.nx
    constructor
    · rintro ((h | h) | h)
      · exact .inl h
      · exact .inr (by omega)
      · exact .inr (by omega)
    · rintro (h | h)
      · exact .inl (.inl h)
      · by_cases hc : id < n1
        · exact .inl (.inr (by omega))
        · exact .inr (by omega)
  nx := Nat.le_trans h.nx k.nx
  frm := k.frm
  mm := by rw [List.append_assoc]; exact k.mm
  far i arr b' o z hg hm hl := by
    rw [List.append_assoc] at hg
    rcases k.far i arr b' o z hg hm hl with h1 | ⟨arr', o', z', h1, h2, h3⟩
    · exact .inl (by simp [h1])
    · rcases h.far i arr' b' o' z' h1 h2 h3 with h4 | h4
      · exact .inl (by simp [h4])
      · exact .inr h4

theorem RR.mono {w w' : World} {ok ok' : Nat → Prop} {h : Nat} {a : AV} {v : Value} {bs : List Nat} (hw : w' = w) (hok : ok' = ok) (hr : RR w ok h a v bs) : RR w' ok' h a v bs := by rw [hw, hok]; exact hr

theorem impCell_sound {E : Env} {w0 : World} {okb : Nat → Prop} {mem : List (Nat × Arr)} {nx : Nat} {a : AV} {v : Value} {h : Nat} {bs : List Nat} (hF : Frm E w0 okb) (hM : MemRel E w0.heap.size mem) (hid : ∀ id, nx ≤ id → id < (impCell nx a).2.2 → ¬ E.al id)
    (hr : RR E.w E.ok h a v bs) (hno : ∀ b, b ∈ bs → ¬ E.ok b) (hbase : w0.heap.size ≤ h) (hfar : ∀ b, b ∈ bs → ∀ i arr b' o z, get mem i = some arr → arr.isMut = true → E.loc i = some (b', o, z) → b' ≠ b) :
    ∃ E', Imported E w0 okb mem nx (impCell nx a).2.1 (impCell nx a).2.2 bs E' ∧ Rep E' (impCell nx a).1 v := by
  obtain ⟨E', h1, h2, h3, h4⟩ := import_one hF hM hid hr hno hbase hfar
  exact ⟨E', ⟨h1, h2, h3.le, h3.al, h3.nx, h3.frm, h3.mem, h4⟩, h3.rep⟩

theorem impCell_le (n : Nat) (a : AV) : n ≤ (impCell n a).2.2 := by cases a <;> simp [impCell]
theorem impCells_le : ∀ (cs : List AV) (n : Nat), n ≤ (impCells n cs).2.2
  | [], n => Nat.le_refl _
  | a :: r, n => by
    have h1 := impCell_le n a
    have h2 := impCells_le r (impCell n a).2.2
    simp only [impCells]
    omega
theorem imp1_le (n : Nat) (a : AV) : n ≤ (imp1 n a).2.2 := by
  cases a <;> first | exact impCell_le n _ | exact impCells_le _ n
theorem imps_le : ∀ (cs : List AV) (n : Nat), n ≤ (imps n cs).2.2
  | [], n => Nat.le_refl _
  | a :: r, n => by
    have h1 := imp1_le n a
    have h2 := imps_le r (imp1 n a).2.2
    simp only [imps]
    omega

/-- The cells of a struct that is handed back. -/
theorem impCells_sound {w0 : World} {okb : Nat → Prop} {h : Nat} (hbase : w0.heap.size ≤ h) : ∀ {cs : List AV} {cv : List Value} {bs : List Nat} {E : Env} {mem : List (Nat × Arr)} {nx : Nat}, Frm E w0 okb → MemRel E w0.heap.size mem →
    (∀ id, nx ≤ id → id < (impCells nx cs).2.2 → ¬ E.al id) → RRs E.w E.ok h cs cv bs → (∀ v, v ∈ cv → v.oneCell' = true) → bs.Nodup → (∀ b, b ∈ bs → ¬ E.ok b) →
    (∀ b, b ∈ bs → ∀ i arr b' o z, get mem i = some arr → arr.isMut = true → E.loc i = some (b', o, z) → b' ≠ b) →
    ∃ E', Imported E w0 okb mem nx (impCells nx cs).2.1 (impCells nx cs).2.2 bs E' ∧ Reps E' (impCells nx cs).1 cv := by
  intro cs
  induction cs with
  | nil =>
    intro cv bs E mem nx hF hM hid hr h1 hnd hno hfar
    cases hr
    exact ⟨E, .refl hF hM, rfl, by simp [impCells]⟩
  | cons a r ih =>
    intro cv bs E mem nx hF hM hid hr h1 hnd hno hfar
    cases hr with
    | @cons _ v _ vs x y ha hr =>
      have hl1 := impCell_le nx a
      have hl2 := impCells_le r (impCell nx a).2.2
      obtain ⟨E1, i1, r1⟩ := impCell_sound hF hM (fun id q1 q2 => hid id q1 (by simp only [impCells]; omega)) ha (fun b hb => hno b (by simp [hb])) hbase (fun b hb => hfar b (by simp [hb]))
      rw [List.nodup_append] at hnd
      obtain ⟨E2, i2, r2⟩ := ih (E := E1) (mem := (impCell nx a).2.1 ++ mem) (nx := (impCell nx a).2.2) i1.frm i1.mm (fun id q1 q2 => by
        rw [i1.al id]
        rintro (q | q)
        · exact hid id (by omega) (by simp only [impCells]; omega) q
        · omega) (by rw [i1.w, i1.ok]; exact hr) (fun v hv => h1 v (List.mem_cons_of_mem _ hv)) hnd.2.1 (fun b hb => by rw [i1.ok]; exact hno b (by simp [hb])) (fun b hb i arr b' o z hg hm hl e => by
          subst e
          rcases i1.far i arr b' o z hg hm hl with q | ⟨arr', o', z', q1, q2, q3⟩
          · exact hnd.2.2 b' q b' hb rfl
          · exact hfar b' (by simp [hb]) i arr' b' o' z' q1 q2 q3 rfl)
      refine ⟨E2, i1.trans i2, by simp [impCells, r2.1], fun j c u hc hu => ?_⟩
      cases j with
      | zero => simp [impCells] at hc hu; subst hc hu; exact r1.mono i2.le
      | succ j => exact r2.2 j c u (by simpa [impCells] using hc) (by simpa using hu)
    | agg g1 ha hr => exact absurd (h1 _ List.mem_cons_self) (by simp [Value.oneCell'])

theorem imps_sound {w0 : World} {okb : Nat → Prop} {h : Nat} (hbase : w0.heap.size ≤ h) : ∀ {cs : List AV} {cv : List Value} {bs : List Nat} {E : Env} {mem : List (Nat × Arr)} {nx : Nat}, Frm E w0 okb → MemRel E w0.heap.size mem →
    (∀ id, nx ≤ id → id < (imps nx cs).2.2 → ¬ E.al id) → RRs E.w E.ok h cs cv bs → bs.Nodup → (∀ b, b ∈ bs → ¬ E.ok b) →
    (∀ b, b ∈ bs → ∀ i arr b' o z, get mem i = some arr → arr.isMut = true → E.loc i = some (b', o, z) → b' ≠ b) →
    ∃ E', Imported E w0 okb mem nx (imps nx cs).2.1 (imps nx cs).2.2 bs E' ∧ Reps E' (imps nx cs).1 cv := by
  intro cs
  induction cs with
  | nil =>
    intro cv bs E mem nx hF hM hid hr hnd hno hfar
    cases hr
    exact ⟨E, .refl hF hM, rfl, by simp [imps]⟩
  | cons a r ih =>
    intro cv bs E mem nx hF hM hid hr hnd hno hfar
    have hl1 := imp1_le nx a
    have hl2 := imps_le r (imp1 nx a).2.2
    have main : ∀ (v : Value) (vs : List Value) (x y : List Nat), (x ++ y).Nodup → (∀ b, b ∈ x ++ y → ¬ E.ok b) → (∀ b, b ∈ x ++ y → ∀ i arr b' o z, get mem i = some arr → arr.isMut = true → E.loc i = some (b', o, z) → b' ≠ b) →
        (∃ E1, Imported E w0 okb mem nx (imp1 nx a).2.1 (imp1 nx a).2.2 x E1 ∧ Rep E1 (imp1 nx a).1 v) → RRs E.w E.ok h r vs y →
        ∃ E', Imported E w0 okb mem nx (imps nx (a :: r)).2.1 (imps nx (a :: r)).2.2 (x ++ y) E' ∧ Reps E' (imps nx (a :: r)).1 (v :: vs) := by
      rintro v vs x y hnd hno hfar ⟨E1, i1, r1⟩ hr
      rw [List.nodup_append] at hnd
      obtain ⟨E2, i2, r2⟩ := ih (E := E1) (mem := (imp1 nx a).2.1 ++ mem) (nx := (imp1 nx a).2.2) i1.frm i1.mm (fun id q1 q2 => by
        rw [i1.al id]
        rintro (q | q)
        · exact hid id (by omega) (by simp only [imps]; omega) q
        · omega) (by rw [i1.w, i1.ok]; exact hr) hnd.2.1 (fun b hb => by rw [i1.ok]; exact hno b (by simp [hb])) (fun b hb i arr b' o z hg hm hl e => by
          subst e
          rcases i1.far i arr b' o z hg hm hl with q | ⟨arr', o', z', q1, q2, q3⟩
          · exact hnd.2.2 b' q b' hb rfl
          · exact hfar b' (by simp [hb]) i arr' b' o' z' q1 q2 q3 rfl)
      refine ⟨E2, i1.trans i2, by simp [imps, r2.1], fun j c u hc hu => ?_⟩
      cases j with
      | zero => simp [imps] at hc hu; subst hc hu; exact r1.mono i2.le
      | succ j => exact r2.2 j c u (by simpa [imps] using hc) (by simpa using hu)
    have hid1 : ∀ id, nx ≤ id → id < (imp1 nx a).2.2 → ¬ E.al id := fun id q1 q2 => hid id q1 (by simp only [imps]; omega)
    cases hr with
    | @cons _ v _ vs x y ha hr =>
      refine main v vs x y hnd hno hfar ?_ hr
      have hc : imp1 nx a = impCell nx a ∨ ∃ cs, a = .agg cs := by cases a <;> first | exact .inl rfl | exact .inr ⟨_, rfl⟩
      rcases hc with e | ⟨cs, rfl⟩
      · rw [e] at hid1 ⊢
        exact impCell_sound hF hM hid1 ha (fun b hb => hno b (by simp [hb])) hbase (fun b hb => hfar b (by simp [hb]))
      · -- a struct that is pure as a whole
        cases ha with
        | pure hp =>
          cases hp with
          | agg _ cv hl g1 hv =>
            have key : ∀ (cs : List AV) (cv : List Value), cv.length = cs.length → (∀ (j : Nat) (c : AV) (v : Value), cs[j]? = some c → cv[j]? = some v → RepP E.w E.ok c v) → RRs E.w E.ok h cs cv [] := by
              intro cs
              induction cs with
              | nil =>
                intro cv hl _
                obtain rfl : cv = [] := by simpa using hl
                exact .nil
              | cons c cs ih =>
                intro cv hl hv
                cases cv with
                | nil => simp at hl
                | cons u cv => exact .cons (x := []) (y := []) (.pure (hv 0 c u rfl rfl)) (ih cv (by simpa using hl) (fun j c v h1 h2 => hv (j + 1) c v (by simpa using h1) (by simpa using h2)))
            obtain ⟨E1, i1, r1⟩ := impCells_sound hbase hF hM hid1 (key cs cv hl hv) g1 (by simp) (by simp) (by simp)
            exact ⟨E1, i1, .agg _ cv r1.1 g1 r1.2⟩
    | @agg cs cv _ vs x y g1 ha hr =>
      refine main _ vs x y hnd hno hfar ?_ hr
      rw [List.nodup_append] at hnd
      obtain ⟨E1, i1, r1⟩ := impCells_sound hbase hF hM hid1 ha g1 hnd.1 (fun b hb => hno b (by simp [hb])) (fun b hb => hfar b (by simp [hb]))
      exact ⟨E1, i1, .agg _ cv r1.1 g1 r1.2⟩
end Go.Ab
end
