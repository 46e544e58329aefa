/- The abstract interpreter: calls, sound. -/
import Derived.Test.YtchibfkcphbmjaaAb18
set_option linter.unusedVariables false
set_option linter.unusedSimpArgs false
set_option linter.unusedSectionVars false

section
namespace Go.Ab
open Go.RowKit (Below)

/-- What an import leaves: the old states' facts, and how the new numbers lie. -/
structure Imported (E : Env) (w0 : World) (okb : Nat → Prop) (mem : List (Nat × Arr)) (nx : Nat) (d : List (Nat × Arr)) (nx' : Nat) (bs : List Nat) (E' : Env) : Prop where
  w : E'.w = E.w
  ok : E'.ok = E.ok
  le : E.Le E'
  al : ∀ id, E'.al id ↔ E.al id ∨ (nx ≤ id ∧ id < nx')
  nx : nx ≤ nx'
  frm : Frm E' w0 okb
  mm : MemRel E' w0.heap.size (d ++ mem)
  far : ∀ i arr b' o z, get (d ++ mem) i = some arr → arr.isMut = true → E'.loc i = some (b', o, z) → b' ∈ bs ∨ ∃ arr' o' z', get mem i = some arr' ∧ arr'.isMut = true ∧ E.loc i = some (b', o', z')

theorem Imported.refl {E : Env} {w0 : World} {okb : Nat → Prop} {mem : List (Nat × Arr)} {nx : Nat} (hF : Frm E w0 okb) (hM : MemRel E w0.heap.size mem) : Imported E w0 okb mem nx [] nx [] E :=
  ⟨rfl, rfl, .refl E, fun id => ⟨.inl, fun h => h.elim (fun h => h) (fun h => by omega)⟩, Nat.le_refl _, hF, hM, fun i arr b' o z hg hm hl => .inr ⟨arr, o, z, hg, hm, hl⟩⟩

theorem Imported.trans {A B C : Env} {w0 : World} {okb : Nat → Prop} {mem d1 d2 : List (Nat × Arr)} {n0 n1 n2 : Nat} {x y : List Nat} (h : Imported A w0 okb mem n0 d1 n1 x B) (k : Imported B w0 okb (d1 ++ mem) n1 d2 n2 y C) :
    Imported A w0 okb mem n0 (d2 ++ d1) n2 (x ++ y) C where
  w := k.w.trans h.w
  ok := k.ok.trans h.ok
  le := h.le.trans k.le
  al id := by
    rw [k.al id, h.al id]
    have := h.nx; have := k.nx
    constructor
    · rintro ((h | h) | h)
      · exact .inl h
      · exact .inr (by omega)
      · exact .inr (by omega)
    · rintro (h | h)
      · exact .inl (.inl h)
      · by_cases hc : id < n1
        · exact .inl (.inr (by omega))
        · exact .inr (by omega)
  nx := Nat.le_trans h.nx k.nx
  frm := k.frm
  mm := by rw [List.append_assoc]; exact k.mm
  far i arr b' o z hg hm hl := by
    rw [List.append_assoc] at hg
    rcases k.far i arr b' o z hg hm hl with h1 | ⟨arr', o', z', h1, h2, h3⟩
    · exact .inl (by simp [h1])
    · rcases h.far i arr' b' o' z' h1 h2 h3 with h4 | h4
      · exact .inl (by simp [h4])
      · exact .inr h4

theorem RR.mono {w w' : World} {ok ok' : Nat → Prop} {h : Nat} {a : AV} {v : Value} {bs : List Nat} (hw : w' = w) (hok : ok' = ok) (hr : RR w ok h a v bs) : RR w' ok' h a v bs := by rw [hw, hok]; exact hr

theorem impCell_sound {E : Env} {w0 : World} {okb : Nat → Prop} {mem : List (Nat × Arr)} {nx : Nat} {a : AV} {v : Value} {h : Nat} {bs : List Nat} (hF : Frm E w0 okb) (hM : MemRel E w0.heap.size mem) (hid : ∀ id, nx ≤ id → id < (impCell nx a).2.2 → ¬ E.al id)
    (hr : RR E.w E.ok h a v bs) (hno : ∀ b, b ∈ bs → ¬ E.ok b) (hbase : w0.heap.size ≤ h) (hfar : ∀ b, b ∈ bs → ∀ i arr b' o z, get mem i = some arr → arr.isMut = true → E.loc i = some (b', o, z) → b' ≠ b) :
    ∃ E', Imported E w0 okb mem nx (impCell nx a).2.1 (impCell nx a).2.2 bs E' ∧ Rep E' (impCell nx a).1 v := by
  obtain ⟨E', h1, h2, h3, h4⟩ := import_one hF hM hid hr hno hbase hfar
  exact ⟨E', ⟨h1, h2, h3.le, h3.al, h3.nx, h3.frm, h3.mem, h4⟩, h3.rep⟩

theorem impCell_le (n : Nat) (a : AV) : n ≤ (impCell n a).2.2 := by cases a <;> simp [impCell]
theorem impCells_le : ∀ (cs : List AV) (n : Nat), n ≤ (impCells n cs).2.2
  | [], n => Nat.le_refl _
  | a :: r, n => by
    have h1 := impCell_le n a
    have h2 := impCells_le r (impCell n a).2.2
    simp only [impCells]
    omega
theorem imp1_le (n : Nat) (a : AV) : n ≤ (imp1 n a).2.2 := by
  cases a <;> first | exact impCell_le n _ | exact impCells_le _ n
theorem imps_le : ∀ (cs : List AV) (n : Nat), n ≤ (imps n cs).2.2
  | [], n => Nat.le_refl _
  | a :: r, n => by
    have h1 := imp1_le n a
    have h2 := imps_le r (imp1 n a).2.2
    simp only [imps]
    omega

/-- The cells of a struct that is handed back. -/
theorem impCells_sound {w0 : World} {okb : Nat → Prop} {h : Nat} (hbase : w0.heap.size ≤ h) : ∀ {cs : List AV} {cv : List Value} {bs : List Nat} {E : Env} {mem : List (Nat × Arr)} {nx : Nat}, Frm E w0 okb → MemRel E w0.heap.size mem →
    (∀ id, nx ≤ id → id < (impCells nx cs).2.2 → ¬ E.al id) → RRs E.w E.ok h cs cv bs → (∀ v, v ∈ cv → v.oneCell' = true) → bs.Nodup → (∀ b, b ∈ bs → ¬ E.ok b) →
    (∀ b, b ∈ bs → ∀ i arr b' o z, get mem i = some arr → arr.isMut = true → E.loc i = some (b', o, z) → b' ≠ b) →
    ∃ E', Imported E w0 okb mem nx (impCells nx cs).2.1 (impCells nx cs).2.2 bs E' ∧ Reps E' (impCells nx cs).1 cv := by
  intro cs
  induction cs with
  | nil =>
    intro cv bs E mem nx hF hM hid hr h1 hnd hno hfar
    cases hr
    exact ⟨E, .refl hF hM, rfl, by simp [impCells]⟩
  | cons a r ih =>
    intro cv bs E mem nx hF hM hid hr h1 hnd hno hfar
    cases hr with
    | @cons _ v _ vs x y ha hr =>
      have hl1 := impCell_le nx a
      have hl2 := impCells_le r (impCell nx a).2.2
      obtain ⟨E1, i1, r1⟩ := impCell_sound hF hM (fun id q1 q2 => hid id q1 (by simp only [impCells]; omega)) ha (fun b hb => hno b (by simp [hb])) hbase (fun b hb => hfar b (by simp [hb]))
      rw [List.nodup_append] at hnd
      obtain ⟨E2, i2, r2⟩ := ih (E := E1) (mem := (impCell nx a).2.1 ++ mem) (nx := (impCell nx a).2.2) i1.frm i1.mm (fun id q1 q2 => by
        rw [i1.al id]
        rintro (q | q)
        · exact hid id (by omega) (by simp only [impCells]; omega) q
        · omega) (by rw [i1.w, i1.ok]; exact hr) (fun v hv => h1 v (List.mem_cons_of_mem _ hv)) hnd.2.1 (fun b hb => by rw [i1.ok]; exact hno b (by simp [hb])) (fun b hb i arr b' o z hg hm hl e => by
          subst e
          rcases i1.far i arr b' o z hg hm hl with q | ⟨arr', o', z', q1, q2, q3⟩
          · exact hnd.2.2 b' q b' hb rfl
          · exact hfar b' (by simp [hb]) i arr' b' o' z' q1 q2 q3 rfl)
      refine ⟨E2, i1.trans i2, by simp [impCells, r2.1], fun j c u hc hu => ?_⟩
      cases j with
      | zero => simp [impCells] at hc hu; subst hc hu; exact r1.mono i2.le
      | succ j => exact r2.2 j c u (by simpa [impCells] using hc) (by simpa using hu)
    | agg g1 ha hr => exact absurd (h1 _ List.mem_cons_self) (by simp [Value.oneCell'])

theorem imps_sound {w0 : World} {okb : Nat → Prop} {h : Nat} (hbase : w0.heap.size ≤ h) : ∀ {cs : List AV} {cv : List Value} {bs : List Nat} {E : Env} {mem : List (Nat × Arr)} {nx : Nat}, Frm E w0 okb → MemRel E w0.heap.size mem →
    (∀ id, nx ≤ id → id < (imps nx cs).2.2 → ¬ E.al id) → RRs E.w E.ok h cs cv bs → bs.Nodup → (∀ b, b ∈ bs → ¬ E.ok b) →
    (∀ b, b ∈ bs → ∀ i arr b' o z, get mem i = some arr → arr.isMut = true → E.loc i = some (b', o, z) → b' ≠ b) →
    ∃ E', Imported E w0 okb mem nx (imps nx cs).2.1 (imps nx cs).2.2 bs E' ∧ Reps E' (imps nx cs).1 cv := by
  intro cs
  induction cs with
  | nil =>
    intro cv bs E mem nx hF hM hid hr hnd hno hfar
    cases hr
    exact ⟨E, .refl hF hM, rfl, by simp [imps]⟩
  | cons a r ih =>
    intro cv bs E mem nx hF hM hid hr hnd hno hfar
    have hl1 := imp1_le nx a
    have hl2 := imps_le r (imp1 nx a).2.2
    have main : ∀ (v : Value) (vs : List Value) (x y : List Nat), (x ++ y).Nodup → (∀ b, b ∈ x ++ y → ¬ E.ok b) → (∀ b, b ∈ x ++ y → ∀ i arr b' o z, get mem i = some arr → arr.isMut = true → E.loc i = some (b', o, z) → b' ≠ b) →
        (∃ E1, Imported E w0 okb mem nx (imp1 nx a).2.1 (imp1 nx a).2.2 x E1 ∧ Rep E1 (imp1 nx a).1 v) → RRs E.w E.ok h r vs y →
        ∃ E', Imported E w0 okb mem nx (imps nx (a :: r)).2.1 (imps nx (a :: r)).2.2 (x ++ y) E' ∧ Reps E' (imps nx (a :: r)).1 (v :: vs) := by
      rintro v vs x y hnd hno hfar ⟨E1, i1, r1⟩ hr
      rw [List.nodup_append] at hnd
      obtain ⟨E2, i2, r2⟩ := ih (E := E1) (mem := (imp1 nx a).2.1 ++ mem) (nx := (imp1 nx a).2.2) i1.frm i1.mm (fun id q1 q2 => by
        rw [i1.al id]
        rintro (q | q)
        · exact hid id (by omega) (by simp only [imps]; omega) q
        · omega) (by rw [i1.w, i1.ok]; exact hr) hnd.2.1 (fun b hb => by rw [i1.ok]; exact hno b (by simp [hb])) (fun b hb i arr b' o z hg hm hl e => by
          subst e
          rcases i1.far i arr b' o z hg hm hl with q | ⟨arr', o', z', q1, q2, q3⟩
          · exact hnd.2.2 b' q b' hb rfl
          · exact hfar b' (by simp [hb]) i arr' b' o' z' q1 q2 q3 rfl)
      refine ⟨E2, i1.trans i2, by simp [imps, r2.1], fun j c u hc hu => ?_⟩
      cases j with
      | zero => simp [imps] at hc hu; subst hc hu; exact r1.mono i2.le
      | succ j => exact r2.2 j c u (by simpa [imps] using hc) (by simpa using hu)
    have hid1 : ∀ id, nx ≤ id → id < (imp1 nx a).2.2 → ¬ E.al id := fun id q1 q2 => hid id q1 (by simp only [imps]; omega)
    cases hr with
    | @cons _ v _ vs x y ha hr =>
      refine main v vs x y hnd hno hfar ?_ hr
      have hc : imp1 nx a = impCell nx a ∨ ∃ cs, a = .agg cs := by cases a <;> first | exact .inl rfl | exact .inr ⟨_, rfl⟩
      rcases hc with e | ⟨cs, rfl⟩
      · rw [e] at hid1 ⊢
        exact impCell_sound hF hM hid1 ha (fun b hb => hno b (by simp [hb])) hbase (fun b hb => hfar b (by simp [hb]))
      · -- a struct that is pure as a whole
        cases ha with
        | pure hp =>
          cases hp with
          | agg _ cv hl g1 hv =>
            have key : ∀ (cs : List AV) (cv : List Value), cv.length = cs.length → (∀ (j : Nat) (c : AV) (v : Value), cs[j]? = some c → cv[j]? = some v → RepP E.w E.ok c v) → RRs E.w E.ok h cs cv [] := by
              intro cs
              induction cs with
              | nil =>
                intro cv hl _
                obtain rfl : cv = [] := by simpa using hl
                exact .nil
              | cons c cs ih =>
                intro cv hl hv
                cases cv with
                | nil => simp at hl
                | cons u cv => exact .cons (x := []) (y := []) (.pure (hv 0 c u rfl rfl)) (ih cv (by simpa using hl) (fun j c v h1 h2 => hv (j + 1) c v (by simpa using h1) (by simpa using h2)))
            obtain ⟨E1, i1, r1⟩ := impCells_sound hbase hF hM hid1 (key cs cv hl hv) g1 (by simp) (by simp) (by simp)
            exact ⟨E1, i1, .agg _ cv r1.1 g1 r1.2⟩
    | @agg cs cv _ vs x y g1 ha hr =>
      refine main _ vs x y hnd hno hfar ?_ hr
      rw [List.nodup_append] at hnd
      obtain ⟨E1, i1, r1⟩ := impCells_sound hbase hF hM hid1 ha g1 hnd.1 (fun b hb => hno b (by simp [hb])) (fun b hb => hfar b (by simp [hb]))
      exact ⟨E1, i1, .agg _ cv r1.1 g1 r1.2⟩
end Go.Ab
end

section
namespace Go.Ab
open Go.RowKit (Below)

theorem rep_pure {E : Env} {a : AV} {v : Value} (h : owns a = false) (hr : Rep E a v) : RepP E.w E.ok a v := by
  cases hr with
  | pure h => exact h
  | _ => simp [owns] at h

/-- Cells of a row, read where all that is there may be read. -/
theorem row_repP {E : Env} {base : Nat} {mem : List (Nat × Arr)} (hM : MemRel E base mem) (hlt : ∀ b, E.ok b → b < E.w.heap.size) {id off len sz : Nat} {xs : List (List AV)} (hg : get mem id = some (.row sz xs) ∨ get mem id = some (.frz sz xs))
    (hlen : off + len ≤ xs.length) {v : Value} (hv : Rep E (.own id off len) v) : RepP E.w (fun b => b < E.w.heap.size) (.sl sz ((xs.drop off).take len)) v := by
  have hll : ((xs.drop off).take len).length = len := by simp; omega
  rcases hv.own_inv.2 with ⟨hl, rfl, rfl, rfl⟩ | ⟨b, o, z, cap, hl, rfl, hc, c0, t0, f0, hb0, _⟩
  · simpa using RepP.slNil sz
  · have hzz := row_loc hM hg hl
    subst hzz
    obtain ⟨hz, hcell⟩ := row_cells (off := off) (len := len) hM hg hl
    have := RepP.sl (w := E.w) (ok := fun b => b < E.w.heap.size) z ((xs.drop off).take len) b (o + off * z) cap (fun i j => (E.w.cell? ⟨b, o + off * z + i * z + j, none⟩).getD undef) (lt_of_blk hb0) (by omega) hz
      (fun i cs j a hi hj => by obtain ⟨y, h1, h2, h3⟩ := hcell i cs j a hi hj; simp [h1])
      (fun i cs j a hi hj => by obtain ⟨y, h1, h2, h3⟩ := hcell i cs j a hi hj; simpa [h1] using h2)
      (fun i cs j a hi hj => by obtain ⟨y, h1, h2, h3⟩ := hcell i cs j a hi hj; simpa [h1] using h3.mono hlt (fun _ _ => rfl))
    rwa [hll] at this

theorem args_temp {E : Env} {base : Nat} {mem : List (Nat × Arr)} (hM : MemRel E base mem) (hlt : ∀ b, E.ok b → b < E.w.heap.size) {a a' : AV} (h : ArgTo mem a a') : ∀ {v : Value}, Rep E a v → RepP E.w (fun b => b < E.w.heap.size) a' v := by
  induction h with
  | same h => exact fun hv => (rep_pure h hv).mono hlt (fun _ _ => rfl)
  | nil sz => intro v hv; obtain rfl := hv.nil_inv; exact .slNil sz
  | row hg hl => exact fun hv => row_repP hM hlt (.inl hg) hl hv
  | frz hg hl => exact fun hv => row_repP hM hlt (.inr hg) hl hv
  | @empty id off sz sz' xs hg =>
    intro v hv
    rcases hv.own_inv.2 with ⟨hl, rfl, _, rfl⟩ | ⟨b, o, z, cap, hl, rfl, hc, c0, t0, f0, hb0, _⟩
    · exact .slNil sz'
    · exact .sl sz' [] b _ cap (fun _ _ => undef) (lt_of_blk hb0) (by simp) (by simp) (by simp) (by simp) (by simp)
  | @box id j cs cs' hg hl hv ih =>
    intro v hr
    obtain ⟨ha, b, o, z, hloc, rfl⟩ := hr.ptr_inv
    obtain ⟨b', c, t, hloc', hb, _, _, hsz, hc⟩ := (hM.arr id _ hg).2
    rw [hloc] at hloc'
    obtain ⟨rfl, rfl, rfl⟩ : b = b' ∧ o = 0 ∧ z = 0 := by simpa using hloc'
    have key : ∀ (q : Nat) (c' : AV), cs'[q]? = some c' → ∃ y, E.w.cell? ⟨b, 0 + 0 * 0 + j + q, none⟩ = some y ∧ y.oneCell' = true ∧ RepP E.w (fun b => b < E.w.heap.size) c' y := by
      intro q c' hq
      obtain ⟨c1, hc1⟩ : ∃ c1, (cs.drop j)[q]? = some c1 := ⟨_, List.getElem?_eq_getElem (by rw [← hl]; exact (List.getElem?_eq_some_iff.1 hq).1)⟩
      have hc2 := hc1
      rw [List.getElem?_drop] at hc2
      obtain ⟨y, h1, h2, h3⟩ := hc (j + q) c1 hc2
      exact ⟨y, by rw [cell_at hb]; simpa using h1, h2, ih q c1 c' hc1 hq h3⟩
    exact .ref cs' b _ (fun q => (E.w.cell? ⟨b, 0 + 0 * 0 + j + q, none⟩).getD undef) (lt_of_blk hb)
      (fun q c' hq => by obtain ⟨y, h1, _⟩ := key q c' hq; simp only [h1, Option.getD_some]) (fun q c' hq => by obtain ⟨y, h1, h2, _⟩ := key q c' hq; simpa only [h1, Option.getD_some] using h2) (fun q c' hq => by obtain ⟨y, h1, _, h3⟩ := key q c' hq; simpa only [h1, Option.getD_some] using h3)
  | @fn f x y x' y' hx hy h1 h2 ih1 ih2 =>
    intro v hr
    obtain ⟨fv, cv, rfl, r1, r2⟩ := hr.fn_inv
    refine .fn f x' y' fv cv (by rw [r1.1, hx]) (by rw [r2.1, hy]) (fun j c u hj hu => ?_) (fun j c u hj hu => ?_)
    · obtain ⟨c1, hc1⟩ : ∃ c1, x[j]? = some c1 := ⟨_, List.getElem?_eq_getElem (by rw [← hx]; exact (List.getElem?_eq_some_iff.1 hj).1)⟩
      exact ih1 j c1 c hc1 hj (r1.2 j c1 u hc1 hu)
    · obtain ⟨c1, hc1⟩ : ∃ c1, y[j]? = some c1 := ⟨_, List.getElem?_eq_getElem (by rw [← hy]; exact (List.getElem?_eq_some_iff.1 hj).1)⟩
      exact ih2 j c1 c hc1 hj (r2.2 j c1 u hc1 hu)
  | @agg x x' hx h1 ih =>
    intro v hr
    obtain ⟨cv, rfl, g1, r1⟩ := hr.agg_inv
    refine .agg x' cv (by rw [r1.1, hx]) g1 (fun j c u hj hu => ?_)
    obtain ⟨c1, hc1⟩ : ∃ c1, x[j]? = some c1 := ⟨_, List.getElem?_eq_getElem (by rw [← hx]; exact (List.getElem?_eq_some_iff.1 hj).1)⟩
    exact ih j c1 c hc1 hj (r1.2 j c1 u hc1 hu)

/-- Rows that are frozen for good. -/
theorem frzOf_sound {w0 : World} {okb : Nat → Prop} {E : Env} {mem : List (Nat × Arr)} (hF : Frm E w0 okb) (hM : MemRel E w0.heap.size mem) : ∀ {as : List AV} {z : List (Nat × Arr)}, frzOf mem as = some z →
    ∃ E1, Frozen E w0 okb (z ++ mem) E1 ∧ (∀ id arr, get (z ++ mem) id = some arr → get mem id = some arr ∨ ∃ sz xs, get mem id = some (.row sz xs) ∧ arr = .frz sz xs) ∧
      ∀ a, a ∈ as → (∀ id off len, a = .own id off len → ∃ sz xs, (get mem id = some (.row sz xs) ∨ get mem id = some (.frz sz xs)) ∧ get (z ++ mem) id = some (.frz sz xs)) ∧ (owns a = true → (∃ id off len, a = .own id off len) ∨ ∃ cs, a = .agg cs ∧ cs.all (fun c => !owns c) = true)
  | [], z, h => by
    obtain rfl := Option.some.inj h
    exact ⟨E, .refl hF hM, fun id arr h => .inl h, by simp⟩
  | a :: r, z, h => by
    have other : (∀ id off len, a ≠ .own id off len) → frzOf mem r = some z → (owns a = true → ∃ cs, a = .agg cs ∧ cs.all (fun c => !owns c) = true) →
        ∃ E1, Frozen E w0 okb (z ++ mem) E1 ∧ (∀ id arr, get (z ++ mem) id = some arr → get mem id = some arr ∨ ∃ sz xs, get mem id = some (.row sz xs) ∧ arr = .frz sz xs) ∧
          ∀ a', a' ∈ a :: r → (∀ id off len, a' = .own id off len → ∃ sz xs, (get mem id = some (.row sz xs) ∨ get mem id = some (.frz sz xs)) ∧ get (z ++ mem) id = some (.frz sz xs)) ∧ (owns a' = true → (∃ id off len, a' = .own id off len) ∨ ∃ cs, a' = .agg cs ∧ cs.all (fun c => !owns c) = true) := by
      intro hne hr ho
      obtain ⟨E1, f1, q1, q2⟩ := frzOf_sound hF hM hr
      refine ⟨E1, f1, q1, fun a' ha' => ?_⟩
      rcases List.mem_cons.1 ha' with rfl | ha'
      · exact ⟨fun id off len e => absurd e (hne id off len), fun h => .inr (ho h)⟩
      · exact q2 a' ha'
    cases a with
    | own id off len =>
      unfold frzOf at h
      split at h
      · rename_i sz xs z' hg hr
        obtain rfl := Option.some.inj h
        obtain ⟨E1, f1, q1, q2⟩ := frzOf_sound hF hM hr
        have hk : ∃ E2, Frozen E w0 okb ((id, Arr.frz sz xs) :: (z' ++ mem)) E2 := by
          cases hz : get (z' ++ mem) id with
          | none =>
            exfalso
            have : ∀ (z : List (Nat × Arr)) (arr : Arr), get mem id = some arr → get (z ++ mem) id ≠ none := by
              intro z
              induction z with
              | nil => intro arr h e; rw [List.nil_append, h] at e; cases e
              | cons p z ih =>
                intro arr h e
                rw [List.cons_append, get_cons] at e
                split at e
                · cases e
                · exact ih arr h e
            exact this z' _ hg hz
          | some arr =>
            rcases q1 id arr hz with e | ⟨sz', xs', e, rfl⟩
            · rw [hg] at e
              obtain rfl := Option.some.inj e
              obtain ⟨E2, h1, h2, h3, h4, h5, h6, _⟩ := freeze_block f1.frm f1.mem hz
              exact ⟨E2, f1.trans ⟨h1, h2, h3, h4, h5, h6⟩⟩
            · rw [hg] at e
              obtain ⟨rfl, rfl⟩ : sz = sz' ∧ xs = xs' := by simpa using e
              exact ⟨E1, f1.w, f1.al, f1.loc, f1.le, f1.frm, f1.mem.cons (f1.mem.arr id _ hz).1 (f1.mem.arr id _ hz).2 (fun h => by cases h)⟩
        obtain ⟨E2, f2⟩ := hk
        have hget : ∀ i arr, get ((id, Arr.frz sz xs) :: (z' ++ mem)) i = some arr → get mem i = some arr ∨ ∃ sz xs, get mem i = some (.row sz xs) ∧ arr = .frz sz xs := by
          intro i arr hi
          rw [get_cons] at hi
          split at hi
          · rename_i e; subst e; exact .inr ⟨sz, xs, hg, (Option.some.inj hi).symm⟩
          · exact q1 i arr hi
        refine ⟨E2, f2, hget, fun a' ha' => ?_⟩
        rcases List.mem_cons.1 ha' with rfl | ha'
        · exact ⟨fun i o l e => by
            obtain ⟨rfl, rfl, rfl⟩ : id = i ∧ off = o ∧ len = l := by simpa using e
            exact ⟨sz, xs, .inl hg, by rw [List.cons_append, get_cons, if_pos rfl]⟩, fun _ => .inl ⟨id, off, len, rfl⟩⟩
        · refine ⟨fun i o l e => ?_, (q2 a' ha').2⟩
          obtain ⟨sz', xs', h1, h2⟩ := (q2 a' ha').1 i o l e
          by_cases hi : id = i
          · subst hi
            rw [hg] at h1
            obtain ⟨rfl, rfl⟩ : sz = sz' ∧ xs = xs' := by simpa using h1
            exact ⟨sz, xs, .inl hg, by rw [List.cons_append, get_cons, if_pos rfl]⟩
          · exact ⟨sz', xs', h1, by rw [List.cons_append, get_cons, if_neg hi]; exact h2⟩
      · rename_i sz xs z' hg hr
        obtain rfl := Option.some.inj h
        obtain ⟨E1, f1, q1, q2⟩ := frzOf_sound hF hM hr
        refine ⟨E1, f1, q1, fun a' ha' => ?_⟩
        rcases List.mem_cons.1 ha' with rfl | ha'
        · refine ⟨fun i o l e => ?_, fun _ => .inl ⟨id, off, len, rfl⟩⟩
          obtain ⟨rfl, rfl, rfl⟩ : id = i ∧ off = o ∧ len = l := by simpa using e
          refine ⟨sz, xs, .inr hg, ?_⟩
          have : ∀ (z : List (Nat × Arr)) (arr : Arr), get mem id = some arr → get (z ++ mem) id ≠ none := by
            intro z
            induction z with
            | nil => intro arr h e; rw [List.nil_append, h] at e; cases e
            | cons p z ih =>
              intro arr h e
              rw [List.cons_append, get_cons] at e
              split at e
              · cases e
              · exact ih arr h e
          cases hz : get (z' ++ mem) id with
          | none => exact absurd hz (this z' _ hg)
          | some arr =>
            rcases q1 id arr hz with e | ⟨_, _, e, _⟩
            · rw [hg] at e; exact e.symm
            · rw [hg] at e; cases e
        · exact q2 a' ha'
      · exact absurd h (by simp)
    | agg cs =>
      unfold frzOf at h
      split at h
      · rename_i hc
        exact other (by simp) h (fun _ => ⟨cs, rfl, hc⟩)
      · exact absurd h (by simp)
    | ptr _ _ _ => simp only [frzOf, owns, if_true] at h; exact absurd h (by simp)
    | fn _ _ _ => simp only [frzOf, owns, if_true] at h; exact absurd h (by simp)
    | tup _ => simp only [frzOf, owns, if_true] at h; exact absurd h (by simp)
    | _ => exact other (by simp) (by simpa [frzOf, owns] using h) (fun h => by simp [owns] at h)
end Go.Ab
end

section
namespace Go.Ab
open Go.RowKit (Below)

/-- What a call yields. -/
def CallYields (R : CallRel) (s : AS) (g : FuncId) (as : List AV) (r : Res) : Prop :=
  ∃ as' v, ArgsTo s.mem as as' ∧ R g as' v ∧
    ((noref v = true ∧ r = ⟨v, [], s.nx, if as.any owns then s.mem.map (·.1) else []⟩) ∨
      ∃ z, frzOf s.mem as = some z ∧ noref v = false ∧ r = ⟨(imp s.nx v).1, (imp s.nx v).2.1 ++ z, (imp s.nx v).2.2, if as.any owns then s.mem.map (·.1) else []⟩)

theorem acall_yields {R : CallRel} {s : AS} {g : FuncId} {as : List AV} {K : Res → Prop} (h : acall R s g as K) : ∃ r, CallYields R s g as r ∧ K r := by
  obtain ⟨as', v, h1, h2, h3⟩ := h
  split at h3
  · rename_i hn; exact ⟨_, ⟨as', v, h1, h2, .inl ⟨hn, rfl⟩⟩, h3⟩
  · rename_i z hn hz; exact ⟨_, ⟨as', v, h1, h2, .inr ⟨z, hz, hn, rfl⟩⟩, h3⟩
  · exact h3.elim

theorem argsTo_get {mem : List (Nat × Arr)} : ∀ {as as' : List AV}, ArgsTo mem as as' → as'.length = as.length ∧ ∀ (j : Nat) (a a' : AV), as[j]? = some a → as'[j]? = some a' → ArgTo mem a a'
  | [], [], _ => ⟨rfl, by simp⟩
  | a :: r, a' :: r', h => by
    obtain ⟨h1, h2⟩ := argsTo_get h.2
    refine ⟨by simp [h1], fun j x y hx hy => ?_⟩
    cases j with
    | zero => simp at hx hy; subst hx hy; exact h.1
    | succ j => exact h2 j x y (by simpa using hx) (by simpa using hy)
  | [], _ :: _, h => h.elim
  | _ :: _, [], h => h.elim

theorem args_perm {E E1 : Env} {w0 : World} {okb : Nat → Prop} {mem z : List (Nat × Arr)} (f1 : Frozen E w0 okb (z ++ mem) E1) {a a' : AV} (hto : ArgTo mem a a') {v : Value} (hv : Rep E a v)
    (h1 : ∀ id off len, a = .own id off len → ∃ sz xs, (get mem id = some (.row sz xs) ∨ get mem id = some (.frz sz xs)) ∧ get (z ++ mem) id = some (.frz sz xs)) (h2 : owns a = true → (∃ id off len, a = .own id off len) ∨ ∃ cs, a = .agg cs ∧ cs.all (fun c => !owns c) = true) :
    RepP E1.w E1.ok a' v := by
  have hv1 := hv.mono f1.le
  cases hto with
  | same h => exact rep_pure h hv1
  | nil sz => obtain rfl := hv.nil_inv; exact .slNil sz
  | @row id off len sz xs hg hl =>
    obtain ⟨sz', xs', q1, q2⟩ := h1 id off len rfl
    rw [hg] at q1
    obtain ⟨rfl, rfl⟩ : sz = sz' ∧ xs = xs' := by simpa using q1
    exact frz_rep f1.mem q2 hv1 hl
  | @frz id off len sz xs hg hl =>
    obtain ⟨sz', xs', q1, q2⟩ := h1 id off len rfl
    rw [hg] at q1
    obtain ⟨rfl, rfl⟩ : sz = sz' ∧ xs = xs' := by simpa using q1
    exact frz_rep f1.mem q2 hv1 hl
  | @empty id off sz sz' xs hg =>
    obtain ⟨sz2, xs2, q1, q2⟩ := h1 id off 0 rfl
    rcases hv1.own_inv.2 with ⟨hl, rfl, _, rfl⟩ | ⟨b, o, zz, cap, hl, rfl, hc, c0, t0, f0, hb0, _⟩
    · exact .slNil sz'
    · have hr := (f1.mem.arr id _ q2).2
      simp only [ArrRel, hl] at hr
      obtain ⟨_, _, _, _, hok, _⟩ := hr
      exact .sl sz' [] b _ cap (fun _ _ => undef) hok (by simp) (by simp) (by simp) (by simp) (by simp)
  | box hg hl hv => rcases h2 rfl with ⟨_, _, _, e⟩ | ⟨_, e, _⟩ <;> cases e
  | fn hx hy h1 h2' => rcases h2 rfl with ⟨_, _, _, e⟩ | ⟨_, e, _⟩ <;> cases e
  | @agg x x' hx hc =>
    rcases h2 rfl with ⟨_, _, _, e⟩ | ⟨cs, e, hall⟩
    · cases e
    · obtain rfl : x = cs := by simpa using e
      obtain ⟨cv, rfl, g1, r1⟩ := hv1.agg_inv
      refine .agg x' cv (by rw [r1.1, hx]) g1 (fun j c u hj hu => ?_)
      obtain ⟨c1, hc1⟩ : ∃ c1, x[j]? = some c1 := ⟨_, List.getElem?_eq_getElem (by rw [← hx]; exact (List.getElem?_eq_some_iff.1 hj).1)⟩
      have ho : owns c1 = false := by
        have := (List.all_eq_true.1 hall) c1 (List.mem_of_getElem? hc1)
        simpa using this
      have hcr := r1.2 j c1 u hc1 hu
      cases hc j c1 c hc1 hj with
      | same h => exact rep_pure ho hcr
      | nil sz => obtain rfl := hcr.nil_inv; exact .slNil sz
      | row _ _ => simp [owns] at ho
      | frz _ _ => simp [owns] at ho
      | empty _ => simp [owns] at ho
      | box _ _ _ => simp [owns] at ho
      | fn _ _ _ _ => simp [owns] at ho
      | agg _ _ => simp [owns] at ho

theorem rrs_sc {w : World} {ok : Nat → Prop} {h : Nat} : ∀ {cs : List AV} {cv : List Value} {bs : List Nat}, cs.all isSc = true → RRs w ok h cs cv bs → ∀ (E : Env), Reps E cs cv := by
  intro cs
  induction cs with
  | nil => intro cv bs _ hr E; cases hr; exact ⟨rfl, by simp⟩
  | cons a r ih =>
    intro cv bs hall hr E
    simp only [List.all_cons, Bool.and_eq_true] at hall
    cases hr with
    | cons ha hr =>
      have h2 := ih hall.2 hr E
      refine ⟨by simp [h2.1], fun j c u hc hu => ?_⟩
      cases j with
      | zero =>
        simp at hc hu
        subst hc hu
        cases ha with
        | pure hp => cases hp <;> first | (simp [isSc] at hall; done) | exact .pure (.sc _)
        | frNil _ => simp [isSc] at hall
        | fr => simp [isSc] at hall
      | succ j => exact h2.2 j c u (by simpa using hc) (by simpa using hu)
    | agg _ _ _ => simp [isSc] at hall

theorem repP_sc {w : World} {ok : Nat → Prop} {a : AV} {v : Value} (h : RepP w ok a v) (hn : noref1 a = true) (E : Env) : Rep E a v := by
  cases h with
  | sc _ => exact .pure (.sc _)
  | agg cs cv hl h1 hv =>
    simp only [noref1] at hn
    refine .agg cs cv hl h1 (fun j c u hj hu => ?_)
    have hs := (List.all_eq_true.1 hn) c (List.mem_of_getElem? hj)
    have := hv j c u hj hu
    cases this <;> first | (simp [isSc] at hs; done) | exact .pure (.sc _)
  | _ => simp [noref1] at hn

theorem rrs_noref {w : World} {ok : Nat → Prop} {h : Nat} : ∀ {cs : List AV} {cv : List Value} {bs : List Nat}, cs.all noref1 = true → RRs w ok h cs cv bs → ∀ (E : Env), Reps E cs cv := by
  intro cs
  induction cs with
  | nil => intro cv bs _ hr E; cases hr; exact ⟨rfl, by simp⟩
  | cons a r ih =>
    intro cv bs hall hr E
    simp only [List.all_cons, Bool.and_eq_true] at hall
    have tail : ∀ (v : Value) (vs : List Value), Rep E a v → Reps E r vs → Reps E (a :: r) (v :: vs) := by
      intro v vs h1 h2
      refine ⟨by simp [h2.1], fun j c u hc hu => ?_⟩
      cases j with
      | zero => simp at hc hu; subst hc hu; exact h1
      | succ j => exact h2.2 j c u (by simpa using hc) (by simpa using hu)
    cases hr with
    | cons ha hr =>
      refine tail _ _ ?_ (ih hall.2 hr E)
      cases ha with
      | pure hp => exact repP_sc hp hall.1 E
      | frNil _ => simp [noref1] at hall
      | fr => simp [noref1] at hall
    | @agg cs cv _ vs x y g1 ha hr =>
      refine tail _ _ ?_ (ih hall.2 hr E)
      have hs : cs.all isSc = true := by simpa only [noref1] using hall.1
      have := rrs_sc hs ha E
      exact .agg cs cv this.1 g1 this.2

theorem noref_res {w w' : World} {ok : Nat → Prop} {r : AV} {v : Value} (h : ResOk w w' ok r v) (hn : noref r = true) (E : Env) : Rep E r v := by
  obtain ⟨bs, rs, vs, _, hr, rfl, rfl⟩ := h
  have key : rs.all noref1 = true ∨ (∃ rs', rs = [.tup rs'] ∧ rs'.all noref1 = true) := by
    match rs, hn with
    | [a], hn =>
      cases a with
      | sc v => exact .inl rfl
      | agg cs => exact .inl (by simpa [noref, noref1] using hn)
      | tup l => exact .inr ⟨l, rfl, hn⟩
      | _ => simp [noref] at hn
    | [], hn => exact .inl rfl
    | _ :: _ :: _, hn => exact .inl hn
  rcases key with key | ⟨rs', rfl, hk⟩
  · have hR := rrs_noref key hr E
    match rs, vs, hR with
    | [a], [u], hR => exact hR.2 0 a u rfl rfl
    | [], [], hR => exact .tup [] [] rfl (by simp)
    | a :: b :: l, u :: x :: l', hR => exact .tup _ _ hR.1 hR.2
    | [], _ :: _, hR => have := hR.1; simp at this
    | [_], [], hR => have := hR.1; simp at this
    | [_], _ :: _ :: _, hR => have := hR.1; simp at this
    | _ :: _ :: _, [], hR => have := hR.1; simp at this
    | _ :: _ :: _, [_], hR => have := hR.1; simp at this
  · cases hr with
    | cons ha hr =>
      cases hr
      cases ha with
      | pure hp =>
        cases hp with
        | tup _ cv hl hv =>
          refine .tup rs' cv hl (fun j c u hj hu => ?_)
          exact repP_sc (hv j c u hj hu) ((List.all_eq_true.1 hk) c (List.mem_of_getElem? hj)) E
end Go.Ab
end
