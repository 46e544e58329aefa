/- The abstract interpreter: calls, sound. -/
import Derived.Test.YtchibfkcphbmjaaAb18
set_option linter.unusedVariables false
set_option linter.unusedSimpArgs false
set_option linter.unusedSectionVars false

namespace Go.Ab
open Go.RowKit (Below)

/-- What an import leaves: the old states' facts, and how the new numbers lie. -/
structure Imported (E : Env) (w0 : World) (okb : Nat → Prop) (mem : List (Nat × Arr)) (nx : Nat) (d : List (Nat × Arr)) (nx' : Nat) (bs : List Nat) (E' : Env) : Prop where
  w : E'.w = E.w
  ok : E'.ok = E.ok
  le : E.Le E'
  al : ∀ id, E'.al id ↔ E.al id ∨ (nx ≤ id ∧ id < nx')
  nx : nx ≤ nx'
  frm : Frm E' w0 okb
  mm : MemRel E' w0.heap.size (d ++ mem)
  far : ∀ i arr b' o z, get (d ++ mem) i = some arr → arr.isMut = true → E'.loc i = some (b', o, z) → b' ∈ bs ∨ ∃ arr' o' z', get mem i = some arr' ∧ arr'.isMut = true ∧ E.loc i = some (b', o', z')

theorem Imported.refl {E : Env} {w0 : World} {okb : Nat → Prop} {mem : List (Nat × Arr)} {nx : Nat} (hF : Frm E w0 okb) (hM : MemRel E w0.heap.size mem) : Imported E w0 okb mem nx [] nx [] E :=
  ⟨rfl, rfl, .refl E, fun id => ⟨.inl, fun h => h.elim (fun h => h) (fun h => by omega)⟩, Nat.le_refl _, hF, hM, fun i arr b' o z hg hm hl => .inr ⟨arr, o, z, hg, hm, hl⟩⟩

theorem Imported.trans {A B C : Env} {w0 : World} {okb : Nat → Prop} {mem d1 d2 : List (Nat × Arr)} {n0 n1 n2 : Nat} {x y : List Nat} (h : Imported A w0 okb mem n0 d1 n1 x B) (k : Imported B w0 okb (d1 ++ mem) n1 d2 n2 y C) :
    Imported A w0 okb mem n0 (d2 ++ d1) n2 (x ++ y) C where
  w := k.w.trans h.w
  ok := k.ok.trans h.ok
  le := h.le.trans k.le
  al id := by
    rw [k.al id, h.al id]
    have := h.nx; have := k.nx
    constructor
    · rintro ((h | h) | h)
      · exact .inl h
      · exact .inr (by omega)
      · exact .inr (by omega)
    · rintro (h | h)
      · exact .inl (.inl h)
      · by_cases hc : id < n1
        · exact .inl (.inr (by omega))
        · exact .inr (by omega)
  nx := Nat.le_trans h.nx k.nx
  frm := k.frm
  mm := by rw [List.append_assoc]; exact k.mm
  far i arr b' o z hg hm hl := by
    rw [List.append_assoc] at hg
    rcases k.far i arr b' o z hg hm hl with h1 | ⟨arr', o', z', h1, h2, h3⟩
    · exact .inl (by simp [h1])
    · rcases h.far i arr' b' o' z' h1 h2 h3 with h4 | h4
      · exact .inl (by simp [h4])
      · exact .inr h4

theorem RR.mono {w w' : World} {ok ok' : Nat → Prop} {h : Nat} {a : AV} {v : Value} {bs : List Nat} (hw : w' = w) (hok : ok' = ok) (hr : RR w ok h a v bs) : RR w' ok' h a v bs := by rw [hw, hok]; exact hr

theorem impCell_sound {E : Env} {w0 : World} {okb : Nat → Prop} {mem : List (Nat × Arr)} {nx : Nat} {a : AV} {v : Value} {h : Nat} {bs : List Nat} (hF : Frm E w0 okb) (hM : MemRel E w0.heap.size mem) (hid : ∀ id, nx ≤ id → id < (impCell nx a).2.2 → ¬ E.al id)
    (hr : RR E.w E.ok h a v bs) (hno : ∀ b, b ∈ bs → ¬ E.ok b) (hbase : w0.heap.size ≤ h) (hfar : ∀ b, b ∈ bs → ∀ i arr b' o z, get mem i = some arr → arr.isMut = true → E.loc i = some (b', o, z) → b' ≠ b) :
    ∃ E', Imported E w0 okb mem nx (impCell nx a).2.1 (impCell nx a).2.2 bs E' ∧ Rep E' (impCell nx a).1 v := by
  obtain ⟨E', h1, h2, h3, h4⟩ := import_one hF hM hid hr hno hbase hfar
  exact ⟨E', ⟨h1, h2, h3.le, h3.al, h3.nx, h3.frm, h3.mem, h4⟩, h3.rep⟩

theorem impCell_le (n : Nat) (a : AV) : n ≤ (impCell n a).2.2 := by cases a <;> simp [impCell]
theorem impCells_le : ∀ (cs : List AV) (n : Nat), n ≤ (impCells n cs).2.2
  | [], n => Nat.le_refl _
  | a :: r, n => by
    have h1 := impCell_le n a
    have h2 := impCells_le r (impCell n a).2.2
    simp only [impCells]
    omega
theorem imp1_le (n : Nat) (a : AV) : n ≤ (imp1 n a).2.2 := by
  cases a <;> first | exact impCell_le n _ | exact impCells_le _ n
theorem imps_le : ∀ (cs : List AV) (n : Nat), n ≤ (imps n cs).2.2
  | [], n => Nat.le_refl _
  | a :: r, n => by
    have h1 := imp1_le n a
    have h2 := imps_le r (imp1 n a).2.2
    simp only [imps]
    omega

/-- The cells of a struct that is handed back. -/
theorem impCells_sound {w0 : World} {okb : Nat → Prop} {h : Nat} (hbase : w0.heap.size ≤ h) : ∀ {cs : List AV} {cv : List Value} {bs : List Nat} {E : Env} {mem : List (Nat × Arr)} {nx : Nat}, Frm E w0 okb → MemRel E w0.heap.size mem →
    (∀ id, nx ≤ id → id < (impCells nx cs).2.2 → ¬ E.al id) → RRs E.w E.ok h cs cv bs → (∀ v, v ∈ cv → v.oneCell' = true) → bs.Nodup → (∀ b, b ∈ bs → ¬ E.ok b) →
    (∀ b, b ∈ bs → ∀ i arr b' o z, get mem i = some arr → arr.isMut = true → E.loc i = some (b', o, z) → b' ≠ b) →
    ∃ E', Imported E w0 okb mem nx (impCells nx cs).2.1 (impCells nx cs).2.2 bs E' ∧ Reps E' (impCells nx cs).1 cv := by
  intro cs
  induction cs with
  | nil =>
    intro cv bs E mem nx hF hM hid hr h1 hnd hno hfar
    cases hr
    exact ⟨E, .refl hF hM, rfl, by simp [impCells]⟩
  | cons a r ih =>
    intro cv bs E mem nx hF hM hid hr h1 hnd hno hfar
    cases hr with
    | @cons _ v _ vs x y ha hr =>
      have hl1 := impCell_le nx a
      have hl2 := impCells_le r (impCell nx a).2.2
      obtain ⟨E1, i1, r1⟩ := impCell_sound hF hM (fun id q1 q2 => hid id q1 (by simp only [impCells]; omega)) ha (fun b hb => hno b (by simp [hb])) hbase (fun b hb => hfar b (by simp [hb]))
      rw [List.nodup_append] at hnd
      obtain ⟨E2, i2, r2⟩ := ih (E := E1) (mem := (impCell nx a).2.1 ++ mem) (nx := (impCell nx a).2.2) i1.frm i1.mm (fun id q1 q2 => by
        rw [i1.al id]
        rintro (q | q)
        · exact hid id (by omega) (by simp only [impCells]; omega) q
        · omega) (by rw [i1.w, i1.ok]; exact hr) (fun v hv => h1 v (List.mem_cons_of_mem _ hv)) hnd.2.1 (fun b hb => by rw [i1.ok]; exact hno b (by simp [hb])) (fun b hb i arr b' o z hg hm hl e => by
          subst e
          rcases i1.far i arr b' o z hg hm hl with q | ⟨arr', o', z', q1, q2, q3⟩
          · exact hnd.2.2 b' q b' hb rfl
          · exact hfar b' (by simp [hb]) i arr' b' o' z' q1 q2 q3 rfl)
      refine ⟨E2, i1.trans i2, by simp [impCells, r2.1], fun j c u hc hu => ?_⟩
      cases j with
      | zero => simp [impCells] at hc hu; subst hc hu; exact r1.mono i2.le
      | succ j => exact r2.2 j c u (by simpa [impCells] using hc) (by simpa using hu)
    | agg g1 ha hr => exact absurd (h1 _ List.mem_cons_self) (by simp [Value.oneCell'])

theorem imps_sound {w0 : World} {okb : Nat → Prop} {h : Nat} (hbase : w0.heap.size ≤ h) : ∀ {cs : List AV} {cv : List Value} {bs : List Nat} {E : Env} {mem : List (Nat × Arr)} {nx : Nat}, Frm E w0 okb → MemRel E w0.heap.size mem →
    (∀ id, nx ≤ id → id < (imps nx cs).2.2 → ¬ E.al id) → RRs E.w E.ok h cs cv bs → bs.Nodup → (∀ b, b ∈ bs → ¬ E.ok b) →
    (∀ b, b ∈ bs → ∀ i arr b' o z, get mem i = some arr → arr.isMut = true → E.loc i = some (b', o, z) → b' ≠ b) →
    ∃ E', Imported E w0 okb mem nx (imps nx cs).2.1 (imps nx cs).2.2 bs E' ∧ Reps E' (imps nx cs).1 cv := by
  intro cs
  induction cs with
  | nil =>
    intro cv bs E mem nx hF hM hid hr hnd hno hfar
    cases hr
    exact ⟨E, .refl hF hM, rfl, by simp [imps]⟩
  | cons a r ih =>
    intro cv bs E mem nx hF hM hid hr hnd hno hfar
    have hl1 := imp1_le nx a
    have hl2 := imps_le r (imp1 nx a).2.2
    have main : ∀ (v : Value) (vs : List Value) (x y : List Nat), (x ++ y).Nodup → (∀ b, b ∈ x ++ y → ¬ E.ok b) → (∀ b, b ∈ x ++ y → ∀ i arr b' o z, get mem i = some arr → arr.isMut = true → E.loc i = some (b', o, z) → b' ≠ b) →
        (∃ E1, Imported E w0 okb mem nx (imp1 nx a).2.1 (imp1 nx a).2.2 x E1 ∧ Rep E1 (imp1 nx a).1 v) → RRs E.w E.ok h r vs y →
        ∃ E', Imported E w0 okb mem nx (imps nx (a :: r)).2.1 (imps nx (a :: r)).2.2 (x ++ y) E' ∧ Reps E' (imps nx (a :: r)).1 (v :: vs) := by
      rintro v vs x y hnd hno hfar ⟨E1, i1, r1⟩ hr
      rw [List.nodup_append] at hnd
      obtain ⟨E2, i2, r2⟩ := ih (E := E1) (mem := (imp1 nx a).2.1 ++ mem) (nx := (imp1 nx a).2.2) i1.frm i1.mm (fun id q1 q2 => by
        rw [i1.al id]
        rintro (q | q)
        · exact hid id (by omega) (by simp only [imps]; omega) q
        · omega) (by rw [i1.w, i1.ok]; exact hr) hnd.2.1 (fun b hb => by rw [i1.ok]; exact hno b (by simp [hb])) (fun b hb i arr b' o z hg hm hl e => by
          subst e
          rcases i1.far i arr b' o z hg hm hl with q | ⟨arr', o', z', q1, q2, q3⟩
          · exact hnd.2.2 b' q b' hb rfl
          · exact hfar b' (by simp [hb]) i arr' b' o' z' q1 q2 q3 rfl)
      refine ⟨E2, i1.trans i2, by simp [imps, r2.1], fun j c u hc hu => ?_⟩
      cases j with
      | zero => simp [imps] at hc hu; subst hc hu; exact r1.mono i2.le
      | succ j => exact r2.2 j c u (by simpa [imps] using hc) (by simpa using hu)
    have hid1 : ∀ id, nx ≤ id → id < (imp1 nx a).2.2 → ¬ E.al id := fun id q1 q2 => hid id q1 (by simp only [imps]; omega)
    cases hr with
    | @cons _ v _ vs x y ha hr =>
      refine main v vs x y hnd hno hfar ?_ hr
      have hc : imp1 nx a = impCell nx a ∨ ∃ cs, a = .agg cs := by cases a <;> first | exact .inl rfl | exact .inr ⟨_, rfl⟩
      rcases hc with e | ⟨cs, rfl⟩
      · rw [e] at hid1 ⊢
        exact impCell_sound hF hM hid1 ha (fun b hb => hno b (by simp [hb])) hbase (fun b hb => hfar b (by simp [hb]))
      · -- a struct that is pure as a whole
        cases ha with
        | pure hp =>
          cases hp with
          | agg _ cv hl g1 hv =>
            have key : ∀ (cs : List AV) (cv : List Value), cv.length = cs.length → (∀ (j : Nat) (c : AV) (v : Value), cs[j]? = some c → cv[j]? = some v → RepP E.w E.ok c v) → RRs E.w E.ok h cs cv [] := by
              intro cs
              induction cs with
              | nil =>
                intro cv hl _
                obtain rfl : cv = [] := by simpa using hl
                exact .nil
              | cons c cs ih =>
                intro cv hl hv
                cases cv with
                | nil => simp at hl
                | cons u cv => exact .cons (x := []) (y := []) (.pure (hv 0 c u rfl rfl)) (ih cv (by simpa using hl) (fun j c v h1 h2 => hv (j + 1) c v (by simpa using h1) (by simpa using h2)))
            obtain ⟨E1, i1, r1⟩ := impCells_sound hbase hF hM hid1 (key cs cv hl hv) g1 (by simp) (by simp) (by simp)
            exact ⟨E1, i1, .agg _ cv r1.1 g1 r1.2⟩
    | @agg cs cv _ vs x y g1 ha hr =>
      refine main _ vs x y hnd hno hfar ?_ hr
      rw [List.nodup_append] at hnd
      obtain ⟨E1, i1, r1⟩ := impCells_sound hbase hF hM hid1 ha g1 hnd.1 (fun b hb => hno b (by simp [hb])) (fun b hb => hfar b (by simp [hb]))
      exact ⟨E1, i1, .agg _ cv r1.1 g1 r1.2⟩
end Go.Ab
