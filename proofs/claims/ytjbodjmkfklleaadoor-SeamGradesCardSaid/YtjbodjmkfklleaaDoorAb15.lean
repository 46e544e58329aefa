/- The abstract interpreter: literals, makes, stores. -/
import Derived.Test.YtjbodjmkfklleaaDoorAb9
import Derived.Laws.Tables
import Derived.Laws.MakeOwn
import Derived.Great.FillDense
set_option linter.unusedVariables false
set_option linter.unusedSimpArgs false
set_option linter.unusedSectionVars false

section
namespace Go.Ab
open Go.RowKit (Below)

/-- Cells of one cell each, with what they are. -/
def Ones (E : Env) (cs : List AV) (cv : List Value) : Prop := Reps E cs cv ∧ ∀ v, v ∈ cv → v.oneCell' = true

theorem Ones.mono {E E' : Env} (hle : E.Le E') {cs : List AV} {cv : List Value} (h : Ones E cs cv) : Ones E' cs cv := ⟨⟨h.1.1, fun j c v a b => (h.1.2 j c v a b).mono hle⟩, h.2⟩
theorem Ones.append {E : Env} {a b : List AV} {x y : List Value} (h : Ones E a x) (k : Ones E b y) : Ones E (a ++ b) (x ++ y) := by
  refine ⟨⟨by simp [h.1.1, k.1.1], fun j c v hc hv => ?_⟩, fun v hv => (List.mem_append.1 hv).elim (h.2 v) (k.2 v)⟩
  by_cases hj : j < a.length
  · rw [List.getElem?_append_left hj] at hc
    rw [List.getElem?_append_left (by rw [h.1.1]; exact hj)] at hv
    exact h.1.2 j c v hc hv
  · rw [List.getElem?_append_right (by omega)] at hc
    rw [List.getElem?_append_right (by rw [h.1.1]; omega), h.1.1] at hv
    exact k.1.2 _ c v hc hv
theorem Ones.take {E : Env} {a : List AV} {x : List Value} (h : Ones E a x) (n : Nat) : Ones E (a.take n) (x.take n) := ⟨take_reps h.1 n, fun v hv => h.2 v (List.mem_of_mem_take hv)⟩
theorem Ones.drop {E : Env} {a : List AV} {x : List Value} (h : Ones E a x) (n : Nat) : Ones E (a.drop n) (x.drop n) := ⟨drop_reps h.1 n, fun v hv => h.2 v (List.mem_of_mem_drop hv)⟩
theorem Ones.get {E : Env} {a : List AV} {x : List Value} (h : Ones E a x) {j : Nat} {c : AV} (hc : a[j]? = some c) : ∃ v, x[j]? = some v ∧ v.oneCell' = true ∧ Rep E c v := by
  obtain ⟨v, hv⟩ : ∃ v, x[j]? = some v := ⟨_, List.getElem?_eq_getElem (by have := (List.getElem?_eq_some_iff.1 hc).1; rw [h.1.1]; exact this)⟩
  exact ⟨v, hv, h.2 v (List.mem_of_getElem? hv), h.1.2 j c v hc hv⟩

theorem splice_ones {E : Env} {cs vs cs' : List AV} {x y : List Value} {j : Nat} (h : splice cs j vs = some cs') (hx : Ones E cs x) (hy : Ones E vs y) : Ones E cs' (x.take j ++ y ++ x.drop (j + y.length)) := by
  unfold splice at h
  split at h
  · obtain rfl := Option.some.inj h
    rw [hy.1.1]
    exact ((hx.take j).append hy).append (hx.drop _)
  · exact absurd h (by simp)

/-- Cells set one by one. -/
theorem foldl_splice (off : Nat) (v : List Value) (c : Array Value) (h : off + v.length ≤ c.size) :
    (v.toArray.zipIdx.foldl (fun cs (x : Value × Nat) => cs.setIfInBounds (off + x.2) x.1) c).toList = c.toList.take off ++ v ++ c.toList.drop (off + v.length) := by
  have key : ∀ (v : List Value) (s : Nat) (c : Array Value), off + s + v.length ≤ c.size →
      ((v.zipIdx s).foldl (fun cs (x : Value × Nat) => cs.setIfInBounds (off + x.2) x.1) c).toList = c.toList.take (off + s) ++ v ++ c.toList.drop (off + s + v.length) := by
    intro v
    induction v with
    | nil => intro s c h; simp
    | cons a v ih =>
      intro s c h
      simp only [List.length_cons] at h
      simp only [List.zipIdx_cons, List.foldl_cons]
      rw [ih (s + 1) _ (by simp; omega)]
      apply List.ext_getElem?
      intro k
      have hl : (c.setIfInBounds (off + s) a).toList = c.toList.set (off + s) a := by simp
      rw [hl]
      simp only [List.append_assoc, List.getElem?_append, List.length_take, List.length_set, Array.length_toList, List.getElem?_take, List.getElem?_set, List.getElem?_drop, List.length_cons]
      have e1 : min (off + (s + 1)) c.size = off + s + 1 := by omega
      have e2 : min (off + s) c.size = off + s := by omega
      rw [e1, e2]
      by_cases hk : k < off + s
      · have : ¬ (off + s = k) := by omega
        simp [hk, show k < off + s + 1 by omega, show k < off + (s + 1) by omega, this]
      · by_cases hk2 : k = off + s
        · subst hk2
          have : off + s < c.size := by omega
          simp [this]
        · have h1 : ¬ (k < off + s + 1) := by omega
          rw [if_neg h1, if_neg hk]
          obtain ⟨m, rfl⟩ : ∃ m, k = off + s + 1 + m := ⟨k - (off + s + 1), by omega⟩
          rw [show off + s + 1 + m - (off + s + 1) = m by omega, show off + s + 1 + m - (off + s) = m + 1 by omega]
          simp only [Nat.add_lt_add_iff_right, List.getElem?_cons_succ]
          split
          · rfl
          · have : ¬ (off + s = off + (s + 1) + v.length + (m - v.length)) := by omega
            rw [if_neg this]
            congr 1
            omega
  have := key v 0 c (by simpa using h)
  simpa [Array.foldl_toList] using this

theorem fill_sound {E : Env} (place : Nat → Option (Nat × Nat)) : ∀ {ps : List (Nat × AV)} {pv : List (Nat × Value)} {cs cs' : List AV} {c : Array Value}, fillParts place cs ps = some cs' →
    pv.map (·.1) = ps.map (·.1) → Reps E (ps.map (·.2)) (pv.map (·.2)) → Ones E cs c.toList → ∃ c', Instr.fill place c pv = some c' ∧ Ones E cs' c'.toList
  | [], pv, cs, cs', c, h, hi, hr, ho => by
    obtain rfl : pv = [] := by simpa using hi
    obtain rfl := Option.some.inj h
    exact ⟨c, rfl, ho⟩
  | (i, v) :: ps, pv, cs, cs', c, h, hi, hr, ho => by
    cases pv with
    | nil => simp at hi
    | cons p pv =>
      obtain ⟨i', x⟩ := p
      simp only [List.map_cons, List.cons.injEq] at hi
      obtain ⟨rfl, hi⟩ := hi
      have hx : Rep E v x := hr.2 0 v x rfl rfl
      have hr' : Reps E (ps.map (·.2)) (pv.map (·.2)) := drop_reps hr 1
      unfold fillParts at h
      split at h
      · rename_i o n vs hp hcv
        split at h
        · rename_i hn
          split at h
          · rename_i cs1 hs
            obtain ⟨cv, hxc, h1, hrc⟩ := cells_sound hcv hx
            have hlen : cv.length = n := by rw [hrc.1, hn]
            have hsp := splice_ones hs ho ⟨hrc, h1⟩
            have hb : o + cv.length ≤ c.size := by
              unfold splice at hs
              split at hs
              · rename_i hle; have e := ho.1.1; rw [Array.length_toList] at e; rw [hrc.1]; omega
              · exact absurd hs (by simp)
            have hf := foldl_splice o cv c hb
            obtain ⟨c', hc', ho'⟩ := fill_sound (c := x.cells.zipIdx.foldl (fun cs (y : Value × Nat) => cs.setIfInBounds (o + y.2) y.1) c) place h hi hr' (by rw [hxc, hf]; exact hsp)
            refine ⟨c', ?_, ho'⟩
            unfold Instr.fill
            simp only [hp]
            have hsz : x.cells.size = cv.length := by rw [hxc]; simp
            rw [if_neg (by rw [hsz, hlen]; simp; omega)]
            exact hc'
          · exact absurd h (by simp)
        · exact absurd h (by simp)
      · exact absurd h (by simp)

theorem oprs2_sound {E : Env} {s : AS} {a : Act} (hT : TmOk E s a) : ∀ {l : List (Nat × Operand)} {vs : List (Nat × AV)}, oprs2 s l = some vs →
    (l.map fun p => (p.1, a.eval p.2)).map (·.1) = vs.map (·.1) ∧ Reps E (vs.map (·.2)) ((l.map fun p => (p.1, a.eval p.2)).map (·.2))
  | [], vs, h => by obtain rfl := Option.some.inj h; exact ⟨rfl, rfl, by simp⟩
  | (i, x) :: r, vs, h => by
    unfold oprs2 at h
    split at h
    · rename_i v vs' hx hr
      obtain rfl := Option.some.inj h
      obtain ⟨h1, h2⟩ := oprs2_sound hT hr
      refine ⟨by simpa using h1, by simpa using h2.1, fun j c v' hc hv => ?_⟩
      cases j with
      | zero => simp at hc hv; subst hc hv; exact opr_sound hT hx
      | succ j => exact h2.2 j c v' (by simpa using hc) (by simpa using hv)
    · exact absurd h (by simp)

theorem build_sound {E : Env} {P : Program} {w0 : World} {okb : Nat → Prop} {s : AS} {t : TypeId} {ps : List (Nat × AV)} {pv : Array (Nat × Value)} {r : Res} (hF : Frm E w0 okb) (hM : MemRel E w0.heap.size s.mem)
    (hi : pv.toList.map (·.1) = ps.map (·.1)) (hr : Reps E (ps.map (·.2)) (pv.toList.map (·.2))) (h : buildE P s t ps = some r) :
    ∃ y, (Instr.build t pv).run P E.w = .ok y E.w ∧ Stepped E w0 okb s.mem s.nx r y E := by
  unfold buildE at h
  split at h
  · rename_i pl z hpl hz
    split at h
    · rename_i cs hcs
      obtain rfl := Option.some.inj h
      obtain ⟨it, v, hit, hzv, rfl, h1⟩ := tzero_inv hz
      obtain ⟨c', hc', ho⟩ := fill_sound (c := v.cells) (pl[·]?) hcs hi hr ⟨Reps.map_const E _, fun u hu => (List.all_eq_true.1 h1) u hu⟩
      unfold tplaces at hpl
      split at hpl
      · rename_i fs hu
        refine ⟨.agg c', run_build E.w t pv c' ?_, .same hF hM ?_⟩
        · simp only [Program.built, hit, hu, hzv, hpl]
          simpa using hc'
        · have := Rep.agg cs c'.toList ho.1.1 ho.2 ho.1.2
          simpa using this
      · exact absurd hpl (by simp)
    · exact absurd h (by simp)
  · exact absurd h (by simp)
end Go.Ab
end

section
namespace Go.Ab
open Go.RowKit (Below)

def OnesP (w : World) (ok : Nat → Prop) (cs : List AV) (cv : List Value) : Prop := cv.length = cs.length ∧ (∀ (j : Nat) (c : AV) (v : Value), cs[j]? = some c → cv[j]? = some v → RepP w ok c v) ∧ ∀ v, v ∈ cv → v.oneCell' = true

theorem OnesP.mono {w w' : World} {ok ok' : Nat → Prop} (hok : ∀ b, ok b → ok' b) (hb : ∀ b, ok b → w'.heap[b]? = w.heap[b]?) {cs : List AV} {cv : List Value} (h : OnesP w ok cs cv) : OnesP w' ok' cs cv :=
  ⟨h.1, fun j c v a b => (h.2.1 j c v a b).mono hok hb, h.2.2⟩

/-- The block of a row is read from now on. -/
def Env.read (E : Env) (b : Nat) : Env := { E with ok := fun k => E.ok k ∨ k = b }

theorem freeze_block {E : Env} {w0 : World} {okb : Nat → Prop} {mem : List (Nat × Arr)} (hF : Frm E w0 okb) (hM : MemRel E w0.heap.size mem) {id sz : Nat} {xs : List (List AV)} (hg : get mem id = some (.row sz xs)) :
    ∃ E', E'.w = E.w ∧ E'.al = E.al ∧ E'.loc = E.loc ∧ E.Le E' ∧ Frm E' w0 okb ∧ MemRel E' w0.heap.size ((id, .frz sz xs) :: mem) ∧ ∀ b o z, E.loc id = some (b, o, z) → E'.ok b := by
  have hr := (hM.arr id _ hg).2
  have hal := (hM.arr id _ hg).1
  cases hl : E.loc id with
  | none =>
    refine ⟨E, rfl, rfl, rfl, .refl E, hF, hM.cons hal ?_ (fun h => by cases h), fun b o z h => by cases h⟩
    simp only [ArrRel, hl] at hr ⊢
    exact hr
  | some p =>
    obtain ⟨b, o, z⟩ := p
    simp only [ArrRel, hl] at hr
    obtain ⟨c, t, hb, hbase, hnok, hsz, hz, hc⟩ := hr
    have hle : E.Le (E.read b) := ⟨fun _ h => .inl h, fun _ _ => rfl, fun _ h => ⟨h, rfl⟩, fun _ c t f h => ⟨c, f, h, rfl⟩⟩
    refine ⟨E.read b, rfl, rfl, rfl, hle, ⟨hF.below, fun k hk h => ?_, fun k h => ?_⟩, ?_, fun b' o' z' h => ?_⟩
    · rcases h with h | rfl
      · exact hF.okb k hk h
      · omega
    · rcases h with h | rfl
      · exact hF.lt k h
      · exact lt_of_blk hb
    · have key : ∀ i a, i ≠ id → get mem i = some a → E.al i ∧ ArrRel (E.read b) w0.heap.size i a := by
        intro i a hne hgi
        obtain ⟨hali, hri⟩ := hM.arr i a hgi
        refine ⟨hali, hri.mono hle hali fun hma b' o' z' hl' => ⟨rfl, ?_⟩⟩
        rintro (h | rfl)
        · revert h
          cases a with
          | row sz xs => simp only [ArrRel, hl'] at hri; obtain ⟨_, _, _, _, h, _⟩ := hri; exact h
          | box cs => obtain ⟨b2, c2, t2, h2, _, _, h, _⟩ := hri; rw [hl'] at h2; obtain ⟨rfl, -⟩ := Prod.mk.inj (Option.some.inj h2); exact h
          | frz _ _ => cases hma
          | dead => cases hma
        · exact hne (hM.far i id a _ _ o' z' o z hgi hg hma rfl hl' hl)
      refine ⟨fun i a hgi => ?_, fun i i' a a' b1 o1 z1 o2 z2 h1 h2 m1 m2 l1 l2 => ?_⟩
      · rw [get_cons] at hgi
        split at hgi
        · rename_i e; subst e; obtain rfl := Option.some.inj hgi
          refine ⟨hal, ?_⟩
          simp only [ArrRel, Env.read, hl]
          exact ⟨c, t, hb, hbase, .inr trivial, hsz, hz, hc.mono (fun _ h => .inl h) (fun _ _ => rfl)⟩
        · rename_i e; exact key i a (fun q => e q.symm) hgi
      · rw [get_cons] at h1 h2
        split at h1
        · obtain rfl := Option.some.inj h1; cases m1
        · split at h2
          · obtain rfl := Option.some.inj h2; cases m2
          · exact hM.far i i' a a' b1 o1 z1 o2 z2 h1 h2 m1 m2 l1 l2
    · obtain ⟨rfl, -⟩ := Prod.mk.inj (Option.some.inj h)
      exact .inr rfl

/-- A row that is frozen, as a value. -/
theorem frz_rep {E : Env} {base : Nat} {mem : List (Nat × Arr)} (hM : MemRel E base mem) {id off len sz : Nat} {xs : List (List AV)} (hg : get mem id = some (.frz sz xs)) {x : Value} (hx : Rep E (.own id off len) x) (hlen : off + len ≤ xs.length) :
    RepP E.w E.ok (.sl sz ((xs.drop off).take len)) x := by
  have hr := (hM.arr id _ hg).2
  rcases hx.own_inv.2 with ⟨hl, rfl, rfl, rfl⟩ | ⟨b, o, z, cap, hl, rfl, hc, _⟩
  · simpa using RepP.slNil sz
  · simp only [ArrRel, hl] at hr
    obtain ⟨c, t, hb, hbase, hok, hsz, hz, hcell⟩ := hr
    have hlen' : ((xs.drop off).take len).length = len := by simp; omega
    by_cases h0 : xs = []
    · subst h0
      obtain ⟨rfl, rfl⟩ : off = 0 ∧ len = 0 := by simp at hlen; omega
      have := RepP.sl (w := E.w) (ok := E.ok) sz [] b (o + 0 * z) cap (fun _ _ => undef) hok (by simp) (by simp) (by simp) (by simp) (by simp)
      simpa using this
    · have hzz := hz
      subst hzz
      have hget : ∀ (i : Nat) (cs : List AV), ((xs.drop off).take len)[i]? = some cs → xs[off + i]? = some cs := by
        intro i cs h
        rw [List.getElem?_take] at h
        split at h
        · rwa [List.getElem?_drop] at h
        · exact absurd h (by simp)
      have hcells : ∀ (i : Nat) (cs : List AV) (j : Nat) (a : AV), ((xs.drop off).take len)[i]? = some cs → cs[j]? = some a → ∃ y, c[o + off * z + i * z + j]? = some y ∧ y.oneCell' = true ∧ RepP E.w E.ok a y := by
        intro i cs j a hi hj
        have := (hcell (off + i) cs (hget i cs hi)).2 j a hj
        rwa [Nat.add_mul, ← Nat.add_assoc] at this
      have hc' : ((xs.drop off).take len).length ≤ cap := by omega
      have := RepP.sl (w := E.w) (ok := E.ok) z ((xs.drop off).take len) b (o + off * z) cap (fun i j => (c[o + off * z + i * z + j]?).getD undef) hok hc' (fun i cs hi => (hcell (off + i) cs (hget i cs hi)).1)
        (fun i cs j a hi hj => by obtain ⟨y, h1, h2, h3⟩ := hcells i cs j a hi hj; rw [cell_at hb]; simp [h1])
        (fun i cs j a hi hj => by obtain ⟨y, h1, h2, h3⟩ := hcells i cs j a hi hj; simpa [h1] using h2)
        (fun i cs j a hi hj => by obtain ⟨y, h1, h2, h3⟩ := hcells i cs j a hi hj; simpa [h1] using h3)
      rwa [hlen'] at this

structure Frozen (E : Env) (w0 : World) (okb : Nat → Prop) (mem' : List (Nat × Arr)) (E' : Env) : Prop where
  w : E'.w = E.w
  al : E'.al = E.al
  loc : E'.loc = E.loc
  le : E.Le E'
  frm : Frm E' w0 okb
  mem : MemRel E' w0.heap.size mem'
theorem Frozen.refl {E : Env} {w0 : World} {okb : Nat → Prop} {mem : List (Nat × Arr)} (hF : Frm E w0 okb) (hM : MemRel E w0.heap.size mem) : Frozen E w0 okb mem E := ⟨rfl, rfl, rfl, .refl E, hF, hM⟩
theorem Frozen.trans {A B C : Env} {w0 : World} {okb : Nat → Prop} {m1 m2 : List (Nat × Arr)} (h : Frozen A w0 okb m1 B) (k : Frozen B w0 okb m2 C) : Frozen A w0 okb m2 C :=
  ⟨k.w.trans h.w, k.al.trans h.al, k.loc.trans h.loc, h.le.trans k.le, k.frm, k.mem⟩

theorem pureCell_sound {E : Env} {w0 : World} {okb : Nat → Prop} {mem : List (Nat × Arr)} {c c' : AV} {d : List (Nat × Arr)} {rd : List Nat} {x : Value} (hF : Frm E w0 okb) (hM : MemRel E w0.heap.size mem) (hx : Rep E c x)
    (h : pureCell mem c = some (c', d, rd)) : ∃ E', Frozen E w0 okb (d ++ mem) E' ∧ RepP E'.w E'.ok c' x := by
  have pu : ∀ (a : AV), (∀ x, Rep E a x → RepP E.w E.ok a x) → c = a → some (a, ([] : List (Nat × Arr)), ([] : List Nat)) = some (c', d, rd) → ∃ E', Frozen E w0 okb (d ++ mem) E' ∧ RepP E'.w E'.ok c' x := by
    rintro a ha rfl e
    simp only [Option.some.injEq, Prod.mk.injEq] at e
    obtain ⟨rfl, rfl, rfl⟩ := e
    exact ⟨E, .refl hF hM, ha x hx⟩
  unfold pureCell at h
  split at h
  · rename_i id off len
    split at h
    · rename_i sz xs hg
      split at h
      · rename_i hlen
        simp only [Option.some.injEq, Prod.mk.injEq] at h
        obtain ⟨rfl, rfl, rfl⟩ := h
        obtain ⟨E', h1, h2, h3, h4, h5, h6, h7⟩ := freeze_block hF hM hg
        exact ⟨E', ⟨h1, h2, h3, h4, h5, h6⟩, frz_rep h6 (by rw [get_cons, if_pos rfl]) (hx.mono h4) hlen⟩
      · exact absurd h (by simp)
    · rename_i sz xs hg
      split at h
      · rename_i hlen
        simp only [Option.some.injEq, Prod.mk.injEq] at h
        obtain ⟨rfl, rfl, rfl⟩ := h
        exact ⟨E, .refl hF hM, frz_rep hM hg hx hlen⟩
      · exact absurd h (by simp)
    · exact absurd h (by simp)
  · exact pu _ (fun x hx => by cases hx with | pure h => exact h) rfl h
  · exact pu _ (fun x hx => by cases hx with | pure h => exact h) rfl h
  · exact pu _ (fun x hx => by cases hx with | pure h => exact h) rfl h
  · exact absurd h (by simp)

theorem pureCells_sound {w0 : World} {okb : Nat → Prop} : ∀ {cs cs' : List AV} {E : Env} {mem d : List (Nat × Arr)} {rd : List Nat} {cv : List Value}, Frm E w0 okb → MemRel E w0.heap.size mem → Ones E cs cv →
    pureCells mem cs = some (cs', d, rd) → ∃ E', Frozen E w0 okb (d ++ mem) E' ∧ OnesP E'.w E'.ok cs' cv
  | [], cs', E, mem, d, rd, cv, hF, hM, ho, h => by
    simp only [pureCells, Option.some.injEq, Prod.mk.injEq] at h
    obtain ⟨rfl, rfl, rfl⟩ := h
    exact ⟨E, .refl hF hM, ho.1.1, by simp, ho.2⟩
  | c :: r, cs', E, mem, d, rd, cv, hF, hM, ho, h => by
    cases cv with
    | nil => have := ho.1.1; simp at this
    | cons x cv =>
      unfold pureCells at h
      split at h
      · rename_i c' d1 rd1 hc
        split at h
        · rename_i r' d2 rd2 hr
          simp only [Option.some.injEq, Prod.mk.injEq] at h
          obtain ⟨rfl, rfl, rfl⟩ := h
          obtain ⟨E1, f1, p1⟩ := pureCell_sound hF hM (ho.1.2 0 c x rfl rfl) hc
          obtain ⟨E2, f2, p2⟩ := pureCells_sound f1.frm f1.mem ((ho.drop 1).mono f1.le) hr
          refine ⟨E2, by rw [List.append_assoc]; exact f1.trans f2, by simpa using p2.1, fun j c v hj hv => ?_, ho.2⟩
          cases j with
          | zero => simp at hj hv; subst hj hv; exact p1.mono f2.le.ok f2.le.blk
          | succ j => exact p2.2.1 j c v (by simpa using hj) (by simpa using hv)
        · exact absurd h (by simp)
      · exact absurd h (by simp)
end Go.Ab
end

section
namespace Go.Ab
open Go.RowKit (Below)
open Go.Great (fill_whole flat_get)

theorem Stepped.after {E E1 E2 : Env} {w0 : World} {okb : Nat → Prop} {mem d : List (Nat × Arr)} {nx : Nat} {r : Res} {x : Value} {rd : List Nat} (f : Frozen E w0 okb (d ++ mem) E1) (h : Stepped E1 w0 okb (d ++ mem) nx r x E2) :
    Stepped E w0 okb mem nx ⟨r.v, r.d ++ d, r.nx, rd⟩ x E2 :=
  ⟨f.le.trans h.le, fun id => by rw [h.al id, f.al], h.nx, h.frm, by rw [List.append_assoc]; exact h.mem, h.rep⟩
theorem Stepped.rd {E E' : Env} {w0 : World} {okb : Nat → Prop} {mem : List (Nat × Arr)} {nx n : Nat} {v : AV} {d : List (Nat × Arr)} {a : List Nat} {x : Value} (h : Stepped E w0 okb mem nx ⟨v, d, n, a⟩ x E') (b : List Nat) : Stepped E w0 okb mem nx ⟨v, d, n, b⟩ x E' :=
  ⟨h.le, h.al, h.nx, h.frm, h.mem, h.rep⟩

theorem divmod {i j s : Nat} (h : j < s) : (i * s + j) / s = i ∧ (i * s + j) % s = j := by
  have hs : 0 < s := by omega
  constructor
  · rw [Nat.mul_comm, Nat.mul_add_div hs, Nat.div_eq_of_lt h, Nat.add_zero]
  · rw [Nat.mul_comm, Nat.mul_add_mod, Nat.mod_eq_of_lt h]
theorem idx_lt {i j n s : Nat} (hi : i < n) (hj : j < s) : i * s + j < n * s := by
  have : (i + 1) * s ≤ n * s := Nat.mul_le_mul_right s hi
  rw [Nat.add_mul] at this
  omega

theorem row_new {E : Env} {w0 : World} {okb : Nat → Prop} {mem : List (Nat × Arr)} {nx : Nat} (hF : Frm E w0 okb) (hM : MemRel E w0.heap.size mem) {c : Array Value} {t : TypeId} {n cap : Nat} {xs : List (List AV)}
    (hid : ¬ E.al nx) (hc : Cells E.w E.ok c 0 n xs) (hcap : cap * n ≤ c.size) (hlen : xs.length ≤ cap) :
    ∃ E', E'.w = E.w.alloc (.cells c t) ∧ Stepped E w0 okb mem nx ⟨.own nx 0 xs.length, [(nx, .row n xs)], nx + 1, []⟩ (.slice (some ⟨E.w.heap.size, 0, none⟩) xs.length cap) E' := by
  obtain ⟨hle, hF', hM', hl, ha, hb, hbase, hok, hfar⟩ := new_block hF hM c t nx n hid
  have hn : xs.length * n ≤ c.size := Nat.le_trans (Nat.mul_le_mul_right n hlen) hcap
  refine ⟨_, rfl, hle, fun id => ⟨fun h => h.elim .inl (fun e => .inr (by simp only; omega)), fun h => h.elim .inl (fun e => .inr (by simp only at e; omega))⟩, by simp, hF', ?_, ?_⟩
  · refine hM'.cons ha ?_ (fun _ id' arr' b o z o' z' hne hg hm h2 h3 => ?_)
    · simp only [ArrRel, hl]
      exact ⟨c, t, hb, hbase, hok, by simpa using hn, trivial, hc.mono hle.ok hle.blk⟩
    · rw [hl] at h2
      obtain ⟨rfl, -⟩ := Prod.mk.inj (Option.some.inj h2)
      exact hfar id' arr' _ o' z' hne hg hm h3 rfl
  · have := Rep.own (E := E.new c t nx n) nx 0 xs.length _ 0 n cap ha hl hlen ⟨c, t, _, hb, by simpa using hcap⟩
    simpa using this

theorem constCell_repP (w : World) (ok : Nat → Prop) (v : Value) : RepP w ok (constCell v) v := by
  unfold constCell
  split
  · exact .nil
  · exact .sc _

theorem makeSlice_sound {E : Env} {P : Program} {w0 : World} {okb : Nat → Prop} {s : AS} {t : TypeId} {l c : AV} {x y : Value} {r : Res} (hF : Frm E w0 okb) (hM : MemRel E w0.heap.size s.mem)
    (hx : Rep E l x) (hy : Rep E c y) (h : makeSliceE P s t l c = some r) (hid : ∀ id, s.nx ≤ id → id < r.nx → ¬ E.al id) : ∃ y' E', (Instr.makeSlice t x y).run P E.w = .ok y' E'.w ∧ Stepped E w0 okb s.mem s.nx r y' E' := by
  unfold makeSliceE at h
  split at h
  · rename_i e l c he
    obtain rfl := hx.sc_inv
    obtain rfl := hy.sc_inv
    split at h
    · rename_i g n z b hz hzero hbytes
      split at h
      · rename_i hcond
        obtain ⟨hlc, h0, hlim, hmax, hzl, hn⟩ := hcond
        have hlc2 : l.toNat ≤ c.toNat := by omega
        obtain rfl := Option.some.inj h
        obtain ⟨i, v, hi, hzv, rfl, h1⟩ := tzero_inv hzero
        obtain ⟨i', hi', hsize⟩ := tsz_info hz
        obtain rfl : i = i' := by rw [hi] at hi'; exact Option.some.inj hi'
        have hbi : i.bytes = b := by unfold tbytes at hbytes; rw [hi] at hbytes; simpa using hbytes
        have hrun := run_make (P := P) E.w t e i v (telem_inv he) hi hzv .i64 .i64 l c h0 hlc (by rw [hbi, Int.mul_comm]; simp only [lim] at hlim; omega) hmax
        have hvs : v.cells.size = n := by simpa using hzl
        have hcells : Cells E.w E.ok (madeCells v.cells (c.toNat * i.size)) 0 n (List.replicate l.toNat (v.cells.toList.map constCell)) := by
          intro k cs hk
          rw [List.getElem?_replicate] at hk
          split at hk
          · rename_i hkl
            obtain rfl := Option.some.inj hk
            refine ⟨hzl, fun j a hj => ?_⟩
            have hjn : j < n := by rw [← hzl]; exact (List.getElem?_eq_some_iff.1 hj).1
            simp only [List.getElem?_map, Option.map_eq_some_iff] at hj
            obtain ⟨u, hu, rfl⟩ := hj
            refine ⟨u, ?_, (List.all_eq_true.1 h1) u (List.mem_of_getElem? hu), constCell_repP _ _ u⟩
            have hlt : k * n + j < c.toNat * n := idx_lt (Nat.lt_of_lt_of_le hkl hlc2) hjn
            rw [hsize]
            simp only [madeCells, Nat.zero_add, Array.getElem?_map, Array.getElem?_range, hlt, if_true, Option.map_some, hvs, (divmod (i := k) hjn).2]
            congr 1
            have : v.cells[j]? = some u := by simpa using hu
            simp [getElem!_def, this]
          · exact absurd hk (by simp)
        obtain ⟨E', hw, hS⟩ := row_new (nx := s.nx) (t := e) (cap := c.toNat) hF hM (hid s.nx (Nat.le_refl _) (by simp)) hcells (by rw [size_madeCells, hsize]; exact Nat.le_refl _) (by simpa using hlc2)
        refine ⟨_, E', by rw [hw]; exact hrun, ?_⟩
        simpa using hS
      · exact absurd h (by simp)
    · exact absurd h (by simp)
  · exact absurd h (by simp)

theorem elems_sound {E : Env} {n : Nat} : ∀ {ps : List (Nat × AV)} {pv : List (Nat × Value)} {k : Nat} {xs : List (List AV)}, elems n k ps = some xs → pv.map (·.1) = ps.map (·.1) → Reps E (ps.map (·.2)) (pv.map (·.2)) →
    pv = ((pv.map (·.2)).zipIdx k).map (fun x => (x.2, x.1)) ∧ xs.length = pv.length ∧ ∀ (i : Nat) (cs : List AV), xs[i]? = some cs → cs.length = n ∧ ∃ v, (pv.map (·.2))[i]? = some v ∧ Ones E cs v.cells.toList
  | [], pv, k, xs, h, hi, hr => by
    obtain rfl : pv = [] := by simpa using hi
    obtain rfl := Option.some.inj h
    exact ⟨rfl, rfl, by simp⟩
  | (i, v) :: ps, pv, k, xs, h, hi, hr => by
    cases pv with
    | nil => simp at hi
    | cons p pv =>
      obtain ⟨i', x⟩ := p
      simp only [List.map_cons, List.cons.injEq] at hi
      obtain ⟨rfl, hi⟩ := hi
      unfold elems at h
      split at h
      · rename_i vs xs' hv hrest
        split at h
        · rename_i hc
          obtain ⟨rfl, hn⟩ := hc
          obtain rfl := Option.some.inj h
          obtain ⟨cv, hxc, h1, hrc⟩ := cells_sound hv (hr.2 0 v x rfl rfl)
          obtain ⟨q1, q2, q3⟩ := elems_sound hrest hi (drop_reps hr 1)
          refine ⟨by simp only [List.map_cons, List.zipIdx_cons]; rw [← q1], by simp [q2], fun j cs hj => ?_⟩
          cases j with
          | zero => simp at hj; subst hj; exact ⟨hn, x, rfl, by rw [hxc]; exact ⟨hrc, h1⟩⟩
          | succ j => exact q3 j cs (by simpa using hj)
        · exact absurd h (by simp)
      · exact absurd h (by simp)

theorem pureRows_sound {w0 : World} {okb : Nat → Prop} : ∀ {xs xs' : List (List AV)} {E : Env} {mem d : List (Nat × Arr)} {rd : List Nat} {vs : List (List Value)}, Frm E w0 okb → MemRel E w0.heap.size mem → vs.length = xs.length →
    (∀ (i : Nat) (cs : List AV) (v : List Value), xs[i]? = some cs → vs[i]? = some v → Ones E cs v) → pureRows mem xs = some (xs', d, rd) →
    ∃ E', Frozen E w0 okb (d ++ mem) E' ∧ xs'.length = xs.length ∧ ∀ (i : Nat) (cs : List AV) (v : List Value), xs'[i]? = some cs → vs[i]? = some v → OnesP E'.w E'.ok cs v
  | [], xs', E, mem, d, rd, vs, hF, hM, hl, ho, h => by
    simp only [pureRows, Option.some.injEq, Prod.mk.injEq] at h
    obtain ⟨rfl, rfl, rfl⟩ := h
    exact ⟨E, .refl hF hM, rfl, by simp⟩
  | c :: r, xs', E, mem, d, rd, vs, hF, hM, hl, ho, h => by
    cases vs with
    | nil => simp at hl
    | cons v vs =>
      unfold pureRows at h
      split at h
      · rename_i c' d1 rd1 hc
        split at h
        · rename_i r' d2 rd2 hr
          simp only [Option.some.injEq, Prod.mk.injEq] at h
          obtain ⟨rfl, rfl, rfl⟩ := h
          obtain ⟨E1, f1, p1⟩ := pureCells_sound hF hM (ho 0 c v rfl rfl) hc
          obtain ⟨E2, f2, q2, p2⟩ := pureRows_sound f1.frm f1.mem (by simpa using hl) (fun i cs v h1 h2 => (ho (i + 1) cs v (by simpa using h1) (by simpa using h2)).mono f1.le) hr
          refine ⟨E2, by rw [List.append_assoc]; exact f1.trans f2, by simp [q2], fun j cs v' hj hv => ?_⟩
          cases j with
          | zero => simp at hj hv; subst hj hv; exact p1.mono f2.le.ok f2.le.blk
          | succ j => exact p2 j cs v' (by simpa using hj) (by simpa using hv)
        · exact absurd h (by simp)
      · exact absurd h (by simp)

theorem buildSlice_sound {E : Env} {P : Program} {w0 : World} {okb : Nat → Prop} {s : AS} {t : TypeId} {len : Nat} {ps : List (Nat × AV)} {pv : Array (Nat × Value)} {r : Res} (hF : Frm E w0 okb) (hM : MemRel E w0.heap.size s.mem)
    (hi : pv.toList.map (·.1) = ps.map (·.1)) (hr : Reps E (ps.map (·.2)) (pv.toList.map (·.2))) (h : buildSliceE P s t len ps = some r) (hid : ∀ id, s.nx ≤ id → id < r.nx → ¬ E.al id) :
    ∃ y E', (Instr.buildSlice t len pv).run P E.w = .ok y E'.w ∧ Stepped E w0 okb s.mem s.nx r y E' := by
  unfold buildSliceE at h
  split at h
  · rename_i e he
    split at h
    · rename_i g n z hz hzero
      split at h
      · rename_i hcond
        obtain ⟨hzl, hn, hsmall, hpl⟩ := hcond
        split at h
        · rename_i xs hxs
          split at h
          · rename_i xs' d rd hpr
            obtain rfl := Option.some.inj h
            obtain ⟨q1, q2, q3⟩ := elems_sound hxs hi hr
            have hplen : pv.toList.length = len := by
              have := congrArg List.length hi
              simpa [hpl] using this
            have hlenx : xs.length = len := by rw [q2, hplen]
            obtain ⟨E1, f1, p1, p2⟩ := pureRows_sound (vs := pv.toList.map fun p => p.2.cells.toList) hF hM (by simp [q2]) (fun i cs v h1 h2 => by
              obtain ⟨_, u, hu, ho⟩ := q3 i cs h1
              simp only [List.getElem?_map, Option.map_eq_some_iff] at hu h2
              obtain ⟨a, ha, rfl⟩ := hu
              obtain ⟨a', ha', rfl⟩ := h2
              rw [ha] at ha'
              obtain rfl := Option.some.inj ha'
              exact ho) hpr
            obtain ⟨i, v, hinfo, hzv, rfl, h1⟩ := tzero_inv hzero
            obtain ⟨i', hi', hsize⟩ := tsz_info hz
            obtain rfl : i = i' := by rw [hinfo] at hi'; exact Option.some.inj hi'
            have hvc : ∀ u ∈ pv.toList.map (·.2), u.cells.size = n := by
              intro u hu
              obtain ⟨k, hk⟩ := List.getElem?_of_mem hu
              have hkl : k < xs.length := by have := (List.getElem?_eq_some_iff.1 hk).1; simp at this; rw [q2]; simpa using this
              obtain ⟨hcl, u', hu', ho⟩ := q3 k _ (List.getElem?_eq_getElem hkl)
              rw [hk] at hu'
              obtain rfl := Option.some.inj hu'
              have := ho.1.1
              rw [Array.length_toList] at this
              rw [this, hcl]
            let c : Array Value := ((pv.toList.map (·.2)).flatMap fun v => v.cells.toList).toArray
            have hcsz : c.size = len * n := by
              have : ∀ (l : List Value), (∀ u ∈ l, u.cells.size = n) → (l.flatMap fun v => v.cells.toList).length = l.length * n := by
                intro l
                induction l with
                | nil => intro _; simp
                | cons a l ih => intro hl; rw [List.flatMap_cons, List.length_append, ih (fun u hu => hl u (List.mem_cons_of_mem _ hu)), Array.length_toList, hl a List.mem_cons_self, List.length_cons, Nat.add_mul]; omega
              show (List.toArray _).size = _
              rw [List.size_toArray, this _ hvc, List.length_map, hplen]
            have hrun : (Instr.buildSlice t len pv).run P E.w = .ok (.slice (some ⟨E.w.heap.size, 0, none⟩) len len) (E.w.alloc (.cells c e)) := by
              by_cases h0 : len = 0
              · subst h0
                have hpe : pv.toList = [] := List.length_eq_zero_iff.1 hplen
                have hce : c = #[] := by show (List.toArray _) = _; rw [hpe]; rfl
                rw [hce]
                simp [Instr.buildSlice, run_underlying (telem_inv he), sizeOf, typeInfo, hinfo, hpe, Instr.fill, newRow, Array.range_zero']
              · have hpos : 0 < len * n := Nat.mul_pos (by omega) hn
                have hfill := fill_whole hn (pv.toList.map (·.2)) ((Array.range (len * i.size)).map (v.cells[· % v.cells.size]!)) hvc (by simp [hsize]; rw [← Array.length_toList, hplen])
                rw [← q1, ← hsize] at hfill
                rw [← hsize] at hpos hsmall
                have hs2 : ¬ (16777216 < len * i.size) := by omega
                have hp2 : ¬ (len * i.size = 0) := by omega
                simp only [Instr.buildSlice, Sem.run_bind, run_underlying (telem_inv he), Result.andThen_ok, sizeOf, typeInfo, zeroValue, run_program, hinfo, hzv, Sem.run_pure, Nat.reducePow, gt_iff_lt, hs2, hp2, if_false, Sem.run_ite, hfill, newRow, run_newObj]
                rfl
            have hcells : Cells E1.w E1.ok c 0 n xs' := by
              intro k cs hk
              have hkl : k < xs.length := by rw [← p1]; exact (List.getElem?_eq_some_iff.1 hk).1
              obtain ⟨hcl, u, hu, ho⟩ := q3 k _ (List.getElem?_eq_getElem hkl)
              have hP := p2 k cs u.cells.toList hk (by simp only [List.getElem?_map, Option.map_eq_some_iff] at hu ⊢; obtain ⟨a, ha, rfl⟩ := hu; exact ⟨a, ha, rfl⟩)
              have hu2 := hvc u (List.mem_of_getElem? hu)
              have hcs : cs.length = n := by rw [← hP.1, Array.length_toList, hu2]
              refine ⟨hcs, fun j a hj => ?_⟩
              have hjn : j < n := by rw [← hcs]; exact (List.getElem?_eq_some_iff.1 hj).1
              obtain ⟨y, hy⟩ : ∃ y, u.cells.toList[j]? = some y := ⟨_, List.getElem?_eq_getElem (by rw [Array.length_toList, hu2]; exact hjn)⟩
              refine ⟨y, ?_, hP.2.2 y (List.mem_of_getElem? hy), hP.2.1 j a y hj hy⟩
              show (List.toArray _)[_]? = _
              rw [List.getElem?_toArray, Nat.zero_add, flat_get hn _ hvc, (divmod (i := k) hjn).1, (divmod (i := k) hjn).2, hu]
              simpa using hy
            obtain ⟨E2, hw, hS⟩ := row_new (nx := s.nx) (t := e) (cap := len) f1.frm f1.mem (by rw [f1.al]; exact hid s.nx (Nat.le_refl _) (by simp)) hcells (by rw [hcsz]; exact Nat.le_refl _) (by rw [p1, hlenx]; exact Nat.le_refl _)
            refine ⟨_, E2, by rw [hw, f1.w]; exact hrun, ?_⟩
            have := Stepped.after (rd := rd) f1 hS
            rw [p1, hlenx, f1.w] at this
            exact this
          · exact absurd h (by simp)
        · exact absurd h (by simp)
      · exact absurd h (by simp)
    · exact absurd h (by simp)
  · exact absurd h (by simp)
end Go.Ab
end

section
namespace Go.Ab
open Go.RowKit (Below)

theorem splice_get {l v : List Value} {p q : Nat} (hp : p + v.length ≤ l.length) : (l.take p ++ v ++ l.drop (p + v.length))[q]? = if q < p then l[q]? else if q < p + v.length then v[q - p]? else l[q]? := by
  simp only [List.append_assoc, List.getElem?_append, List.length_take, List.getElem?_take, List.getElem?_drop]
  have e : min p l.length = p := by omega
  rw [e]
  by_cases h1 : q < p
  · simp [h1]
  · rw [if_neg h1, if_neg h1]
    by_cases h2 : q < p + v.length
    · rw [if_pos (by omega), if_pos h2]
    · rw [if_neg (by omega), if_neg h2]
      congr 1
      omega

theorem store_sound {E : Env} {P : Program} {w0 : World} {okb : Nat → Prop} {s : AS} {t : TypeId} {p v : AV} {x y : Value} {r : Res} (hF : Frm E w0 okb) (hM : MemRel E w0.heap.size s.mem)
    (hx : Rep E p x) (hy : Rep E v y) (h : storeE P s t p v = some r) : ∃ E', (Instr.storeAt t x y).run P E.w = .ok () E'.w ∧ Stepped E w0 okb s.mem s.nx r undef E' := by
  unfold storeE at h
  split at h
  · rename_i g n vs id i j hz hvs
    split at h
    · rename_i hn
      obtain ⟨cv, hyc, h1, hrv⟩ := cells_sound hvs hy
      have hcvn : cv.length = n := by rw [hrv.1, hn]
      obtain ⟨ha, b, o, z, hl, rfl⟩ := hx.ptr_inv
      have hrun : ∀ (c : Array Value) (ty : TypeId), E.w.heap[b]? = some (.cells c ty (0, 0)) → o + i * z + j + cv.length ≤ c.size →
          (Instr.storeAt t (.pointer (some ⟨b, o + i * z + j, none⟩)) y).run P E.w = .ok () (E.w.setRow b (c.toList.take (o + i * z + j) ++ cv ++ c.toList.drop (o + i * z + j + cv.length)).toArray) := by
        intro c ty hb hle
        have hs := run_storeCells_at (P := P) b (o + i * z + j) ty cv 0 c E.w hb (by omega) h1
        have hcs : y.cells.size = n := by rw [hyc]; simpa using hcvn
        have hct : y.cells.toList = cv := by rw [hyc]
        simp only [Instr.storeAt, Instr.sureAddr, storeVar, Sem.run_bind, Sem.run_pure, Result.andThen_ok, run_sizeOf_tsz hz, hcs, ne_eq, not_true_eq_false, if_false, hct]
        simpa using hs
      split at h
      · rename_i bs hg
        split at h
        · rename_i hi0
          subst hi0
          split at h
          · rename_i cs' hsp
            obtain rfl := Option.some.inj h
            obtain ⟨b', c, ty, hl', hb, hbase, hnok, hsz, hc⟩ := (hM.arr id _ hg).2
            rw [hl] at hl'
            obtain ⟨rfl, rfl, rfl⟩ : b = b' ∧ o = 0 ∧ z = 0 := by simpa using hl'
            have hjl : j + cv.length ≤ c.size := by
              unfold splice at hsp
              split at hsp
              · rw [hsz, hrv.1]; assumption
              · exact absurd hsp (by simp)
            have hbs : Ones E bs c.toList := ⟨⟨by simp [hsz], fun q a u hq hu => by
                obtain ⟨u', e1, _, e3⟩ := hc q a hq
                rw [Array.getElem?_toList] at hu
                rw [hu] at e1
                obtain rfl := Option.some.inj e1
                exact e3⟩, fun u hu => by
                obtain ⟨q, hq⟩ := List.getElem?_of_mem hu
                rw [Array.getElem?_toList] at hq
                obtain ⟨u', e1, e2, _⟩ := hc q _ (List.getElem?_eq_getElem (by have := (Array.getElem?_eq_some_iff.1 hq).1; omega))
                rw [hq] at e1
                obtain rfl := Option.some.inj e1
                exact e2⟩
            have hsp' := splice_ones hsp hbs ⟨hrv, h1⟩
            let c' := (c.toList.take j ++ cv ++ c.toList.drop (j + cv.length)).toArray
            have hcs : c'.size = c.size := by simp [c']; omega
            obtain ⟨hle, hF', hat, hmem⟩ := set_block hF hM hg rfl hl hb hbase hnok hcs
            refine ⟨_, by have := hrun c ty hb (by simpa using hjl); simpa [c', Env.set] using this, hle, fun id' => ⟨.inl, fun h => h.elim (fun h => h) (fun h => by simp only at h; omega)⟩, by simp, hF', hmem _ ?_, .pure (.jk _)⟩
            have ho := hsp'.mono hle
            have hlc : c'.size = cs'.length := by have := hsp'.1.1; simpa [c'] using this
            refine ⟨b, c', ty, hl, hat, hbase, hnok, hlc, fun q a hq => ?_⟩
            obtain ⟨u, e1, e2, e3⟩ := ho.get hq
            exact ⟨u, by simpa [c'] using e1, e2, e3⟩
          · exact absurd h (by simp)
        · exact absurd h (by simp)
      · rename_i sz xs hg
        split at h
        · rename_i vs' d rd cs hpc hxi
          split at h
          · rename_i hd
            split at h
            · rename_i cs' hsp
              obtain rfl := Option.some.inj h
              have hxlen : 0 < xs.length := by have := (List.getElem?_eq_some_iff.1 hxi).1; omega
              have hzz : z = sz := row_loc hM (.inl hg) hl
              subst hzz
              obtain ⟨E1, f1, p1⟩ := pureCells_sound hF hM ⟨hrv, h1⟩ hpc
              have hg1 : get (d ++ s.mem) id = some (.row z xs) := by
                have : ∀ (d : List (Nat × Arr)), d.all (fun x => x.1 != id) = true → get (d ++ s.mem) id = get s.mem id := by
                  intro d
                  induction d with
                  | nil => intro _; rfl
                  | cons a d ih =>
                    intro hd
                    simp only [List.all_cons, Bool.and_eq_true, bne_iff_ne, ne_eq] at hd
                    rw [List.cons_append, get_cons, if_neg hd.1]
                    exact ih hd.2
                rw [this d hd, hg]
              have hl1 : E1.loc id = some (b, o, z) := by rw [f1.loc, hl]
              have hr := (f1.mem.arr id _ hg1).2
              simp only [ArrRel, hl1] at hr
              obtain ⟨c, ty, hb, hbase, hnok, hsz, hzc, hc⟩ := hr
              have hi : i < xs.length := (List.getElem?_eq_some_iff.1 hxi).1
              have hcsl : cs.length = z := (hc i cs hxi).1
              have hvl : vs'.length = cv.length := p1.1.symm
              have hj : j + cv.length ≤ z := by
                unfold splice at hsp
                split at hsp
                · rw [← hvl, ← hcsl]; assumption
                · exact absurd hsp (by simp)
              have hbnd : o + i * z + j + cv.length ≤ c.size := by
                have : (i + 1) * z ≤ xs.length * z := Nat.mul_le_mul_right z hi
                rw [Nat.add_mul] at this
                omega
              let c' := (c.toList.take (o + i * z + j) ++ cv ++ c.toList.drop (o + i * z + j + cv.length)).toArray
              have hcs : c'.size = c.size := by simp [c']; omega
              obtain ⟨hle, hF', hat, hmem⟩ := set_block f1.frm f1.mem hg1 rfl hl1 hb hbase hnok hcs
              have hrun' := hrun c ty (by rw [← f1.w]; exact hb) hbnd
              have hcell : ∀ q, c'[q]? = if q < o + i * z + j then c[q]? else if q < o + i * z + j + cv.length then cv[q - (o + i * z + j)]? else c[q]? := by
                intro q
                have := splice_get (l := c.toList) (v := cv) (p := o + i * z + j) (q := q) (by simpa using hbnd)
                simpa [c'] using this
              have hS : Stepped E1 w0 okb (d ++ s.mem) s.nx ⟨.jk, [(id, .row z (xs.set i cs'))], s.nx, []⟩ undef (E1.set b c') := by
                refine ⟨hle, fun id' => ⟨.inl, fun h => h.elim (fun h => h) (fun h => by simp only at h; omega)⟩, by simp, hF', hmem _ ?_, .pure (.jk _)⟩
                simp only [ArrRel]
                rw [show (E1.set b c').loc id = some (b, o, z) from hl1]
                refine ⟨c', ty, hat, hbase, hnok, by rw [List.length_set, hcs]; exact hsz, rfl, ?_⟩
                have hcm : Cells (E1.set b c').w (E1.set b c').ok c o z xs := hc.mono hle.ok hle.blk
                have hlow : ∀ {k m : Nat}, m < z → k < i → o + k * z + m < o + i * z := by
                  intro k m hm hk
                  have := idx_lt (s := z) hk hm
                  omega
                have hhigh : ∀ {k : Nat}, i < k → o + i * z + z ≤ o + k * z := by
                  intro k hk
                  have : (i + 1) * z ≤ k * z := Nat.mul_le_mul_right z hk
                  rw [Nat.add_mul] at this
                  omega
                intro k row hk
                rw [List.getElem?_set] at hk
                split at hk
                · rename_i hik
                  subst hik
                  obtain rfl := Option.some.inj hk
                  unfold splice at hsp
                  split at hsp
                  · rename_i hle2
                    obtain rfl := Option.some.inj hsp
                    refine ⟨by simp; omega, fun m a hm => ?_⟩
                    rw [hcell]
                    rw [List.append_assoc, List.getElem?_append] at hm
                    split at hm
                    · rename_i hm1
                      have hmj : m < j := by simp at hm1; omega
                      rw [if_pos (by omega)]
                      rw [List.getElem?_take, if_pos hmj] at hm
                      exact (hcm i cs hxi).2 m a hm
                    · rename_i hm1
                      have hmj : ¬ m < j := by simp at hm1; omega
                      rw [if_neg (by omega)]
                      have htl : (cs.take j).length = j := by simp; omega
                      rw [htl, List.getElem?_append] at hm
                      split at hm
                      · rename_i hm2
                        rw [if_pos (by omega), show o + i * z + m - (o + i * z + j) = m - j by omega]
                        obtain ⟨u, hu⟩ : ∃ u, cv[m - j]? = some u := ⟨_, List.getElem?_eq_getElem (by omega)⟩
                        exact ⟨u, hu, p1.2.2 u (List.mem_of_getElem? hu), (p1.2.1 _ a u hm hu).mono hle.ok hle.blk⟩
                      · rename_i hm2
                        rw [if_neg (by omega)]
                        rw [List.getElem?_drop, show j + vs'.length + (m - j - vs'.length) = m by omega] at hm
                        exact (hcm i cs hxi).2 m a hm
                  · exact absurd hsp (by simp)
                · rename_i hik
                  obtain ⟨hl2, hcc⟩ := hcm k row hk
                  refine ⟨hl2, fun m a hm => ?_⟩
                  have hmz : m < z := by rw [← hl2]; exact (List.getElem?_eq_some_iff.1 hm).1
                  obtain ⟨u, e1, e2, e3⟩ := hcc m a hm
                  refine ⟨u, ?_, e2, e3⟩
                  rw [hcell]
                  rcases Nat.lt_or_gt_of_ne (fun e : k = i => hik e.symm) with hlt | hgt
                  · have := hlow hmz hlt
                    rw [if_pos (by omega)]; exact e1
                  · have := hhigh hgt
                    rw [if_neg (by omega), if_neg (by omega)]; exact e1
              refine ⟨E1.set b c', ?_, ?_⟩
              · rw [hrun']
                show _ = Result.ok () (E1.w.setRow b c')
                rw [f1.w]
              · exact Stepped.after f1 hS
            · exact absurd h (by simp)
          · exact absurd h (by simp)
        · exact absurd h (by simp)
      · exact absurd h (by simp)
    · exact absurd h (by simp)
  · exact absurd h (by simp)
end Go.Ab
end

section
namespace Go.Ab
open Go.RowKit (Below)

def OptRep (E : Env) : Option AV → Option Value → Prop
  | none, none => True
  | some a, some v => Rep E a v
  | _, _ => False

theorem bound_inv {E : Env} {d : Nat} {lo : Option AV} {v : Option Value} {l : Int} (h : bound d lo = some l) (hr : OptRep E lo v) : (v = none ∧ l = d) ∨ ∃ k, v = some (.int k l) := by
  unfold bound at h
  split at h
  · cases v with
    | none => exact .inl ⟨rfl, (Option.some.inj h).symm⟩
    | some _ => cases hr
  · cases v with
    | none => cases hr
    | some u => obtain rfl := Rep.sc_inv hr; obtain rfl := Option.some.inj h; exact .inr ⟨_, rfl⟩
  · exact absurd h (by simp)

theorem run_sliceBounds {E : Env} {P : Program} {isSlice : Bool} {len cap : Nat} {lo hi : Option AV} {vlo vhi : Option Value} {l h : Int} (hl : bound 0 lo = some l) (hh : bound len hi = some h)
    (rl : OptRep E lo vlo) (rh : OptRep E hi vhi) (h0 : 0 ≤ l) (h1 : l ≤ h) (h2 : h ≤ len) (h3 : len ≤ cap) (w : World) :
    (Instr.sliceBounds isSlice len cap vlo vhi none).run P w = .ok (l.toNat, h.toNat, cap) w := by
  have e1 : (h.toNat : Int) = h := Int.toNat_of_nonneg (by omega)
  rcases bound_inv hh rh with ⟨rfl, rfl⟩ | ⟨k, rfl⟩
  · rcases bound_inv hl rl with ⟨rfl, rfl⟩ | ⟨k', rfl⟩
    · simp [Instr.sliceBounds]
    · have : 0 ≤ l ∧ l ≤ (len : Int) := ⟨h0, h1⟩
      simp [Instr.sliceBounds, Instr.sliceBound, asIntOf, this]
  · have c1 : 0 ≤ h ∧ h ≤ (cap : Int) := ⟨by omega, by omega⟩
    rcases bound_inv hl rl with ⟨rfl, rfl⟩ | ⟨k', rfl⟩
    · simp [Instr.sliceBounds, Instr.sliceBound, asIntOf, c1]
    · have : 0 ≤ l ∧ l ≤ (h.toNat : Int) := ⟨h0, by omega⟩
      simp only [Instr.sliceBounds, Instr.sliceBound, asIntOf, Sem.run_bind, Sem.run_pure, Result.andThen_ok, c1, and_self, if_true, Sem.run_ite, this]

theorem slice_sound {E : Env} {P : Program} {w0 : World} {okb : Nat → Prop} {s : AS} {t : TypeId} {v : AV} {x : Value} {lo hi : Option AV} {vlo vhi : Option Value} {r : Res} (hF : Frm E w0 okb) (hM : MemRel E w0.heap.size s.mem)
    (hx : Rep E v x) (rl : OptRep E lo vlo) (rh : OptRep E hi vhi) (h : sliceE P s t v lo hi = some r) : ∃ y, (Instr.sliceAt t x vlo vhi none).run P E.w = .ok y E.w ∧ Stepped E w0 okb s.mem s.nx r y E := by
  unfold sliceE at h
  split at h
  · rename_i b
    obtain rfl := hx.sc_inv
    split at h
    · rename_i l h' ht hl hh
      split at h
      · rename_i hc
        obtain rfl := Option.some.inj h
        have hb := run_sliceBounds (P := P) (isSlice := false) (cap := b.size) hl hh rl rh hc.1 hc.2.1 hc.2.2 (Nat.le_refl _) E.w
        exact ⟨_, by simp [Instr.sliceAt, Instr.slice, run_underlying (tstr_inv ht), hb], .same hF hM (.pure (.sc _))⟩
      · exact absurd h (by simp)
    · exact absurd h (by simp)
  · rename_i sz xs
    split at h
    · rename_i g n l h' hz hl hh
      obtain ⟨e, hu, hz⟩ := elem_tsz hz
      split at h
      · rename_i hc
        obtain ⟨h0, h1, h2, rfl⟩ := hc
        obtain rfl := Option.some.inj h
        rcases hx.sl_inv with ⟨rfl, rfl | ⟨a, cap, rfl⟩⟩ | ⟨b, o, cap, rfl, hk, hcap, hsz, hcell⟩
        · have hb := run_sliceBounds (P := P) (isSlice := true) (cap := 0) hl hh rl rh h0 h1 h2 (Nat.le_refl _) E.w
          simp only [List.length_nil] at h2
          obtain rfl : h' = 0 := by omega
          obtain rfl : l = 0 := by omega
          refine ⟨.slice none 0 0, ?_, .same hF hM ?_⟩
          · simp only [List.length_nil] at hb
            simp [Instr.sliceAt, Instr.slice, run_underlying hu, hb, run_sizeOf_tsz hz]
          · simpa using Rep.pure (E := E) (.slNil n)
        · simp only [List.length_nil] at h2 hh
          have hb := run_sliceBounds (P := P) (isSlice := true) (cap := cap) hl hh rl rh h0 h1 h2 (Nat.zero_le _) E.w
          obtain rfl : h' = 0 := by omega
          obtain rfl : l = 0 := by omega
          refine ⟨.slice (some (if cap = 0 then a else a.add 0)) 0 cap, ?_, .same hF hM ?_⟩
          · by_cases hc0 : cap = 0
            · subst hc0; simp [Instr.sliceAt, Instr.slice, run_underlying hu, hb, run_sizeOf_tsz hz]
            · simp [Instr.sliceAt, Instr.slice, run_underlying hu, hb, run_sizeOf_tsz hz, hc0]
          · simpa using Rep.pure (E := E) (.slEmp n _ cap)
        · have hb := run_sliceBounds (P := P) (isSlice := true) (cap := cap) hl hh rl rh h0 h1 h2 hcap E.w
          have hll : ((xs.take h'.toNat).drop l.toNat).length = h'.toNat - l.toNat := by simp; omega
          have hrun : (Instr.sliceAt t (.slice (some ⟨b, o, none⟩) xs.length cap) vlo vhi none).run P E.w = .ok (.slice (some ⟨b, if cap = l.toNat then o else o + l.toNat * n, none⟩) (h'.toNat - l.toNat) (cap - l.toNat)) E.w := by
            by_cases hcl : cap = l.toNat
            · rw [hcl] at hb
              simp [Instr.sliceAt, Instr.slice, run_underlying hu, hb, run_sizeOf_tsz hz, hcl]
            · simp [Instr.sliceAt, Instr.slice, run_underlying hu, hb, run_sizeOf_tsz hz, hcl, addr_add]
          refine ⟨_, hrun, .same hF hM (.pure ?_)⟩
          have hget : ∀ (i : Nat) (cs : List AV), ((xs.take h'.toNat).drop l.toNat)[i]? = some cs → xs[l.toNat + i]? = some cs := by
            intro i cs hi
            rw [List.getElem?_drop, List.getElem?_take] at hi
            split at hi
            · exact hi
            · exact absurd hi (by simp)
          by_cases hcl : cap = l.toNat
          · have hnil : (xs.take h'.toNat).drop l.toNat = [] := by apply List.length_eq_zero_iff.1; omega
            have e1 : h'.toNat - l.toNat = 0 := by omega
            rw [if_pos hcl, hnil, e1]
            exact .sl n [] b o _ (fun _ _ => undef) hk (by simp) (by simp) (by simp) (by simp) (by simp)
          · rw [if_neg hcl, ← hll]
            have hcs : ∀ (i : Nat) (cs : List AV) (j : Nat) (c : AV), ((xs.take h'.toNat).drop l.toNat)[i]? = some cs → cs[j]? = some c → ∃ y, E.w.cell? ⟨b, o + l.toNat * n + i * n + j, none⟩ = some y ∧ y.oneCell' = true ∧ RepP E.w E.ok c y := by
              intro i cs j c hi hj
              have := hcell (l.toNat + i) cs j c (hget i cs hi) hj
              rwa [Nat.add_mul, ← Nat.add_assoc] at this
            exact .sl n _ b _ _ (fun i j => (E.w.cell? ⟨b, o + l.toNat * n + i * n + j, none⟩).getD undef) hk (by omega) (fun i cs hi => hsz _ cs (hget i cs hi))
              (fun i cs j c hi hj => by obtain ⟨y, q1, q2, q3⟩ := hcs i cs j c hi hj; simp [q1])
              (fun i cs j c hi hj => by obtain ⟨y, q1, q2, q3⟩ := hcs i cs j c hi hj; simpa [q1] using q2)
              (fun i cs j c hi hj => by obtain ⟨y, q1, q2, q3⟩ := hcs i cs j c hi hj; simpa [q1] using q3)
      · exact absurd h (by simp)
    · exact absurd h (by simp)
  · rename_i id off len
    have main : ∀ (g : Bool) (n : Nat) (l h' : Int) (sz : Nat) (xs : List (List AV)), (telem P t).bind (tsz P) = some (g, n) → bound 0 lo = some l → bound len hi = some h' →
        get s.mem id = some (.row sz xs) ∨ get s.mem id = some (.frz sz xs) → 0 ≤ l ∧ l ≤ h' ∧ h' ≤ len ∧ n = sz ∧ 0 < xs.length ∧ (l = 0 ∨ l < len) →
        ∃ y, (Instr.sliceAt t x vlo vhi none).run P E.w = .ok y E.w ∧ Stepped E w0 okb s.mem s.nx ⟨.own id (off + l.toNat) (h' - l).toNat, [], s.nx, [id]⟩ y E := by
      rintro g n l h' sz xs hz hl hh hg ⟨h0, h1, h2, rfl, hxl, hor⟩
      obtain ⟨e, hu, hz⟩ := elem_tsz hz
      obtain ⟨ha, hcase⟩ := hx.own_inv
      rcases hcase with ⟨hloc, rfl, rfl, rfl⟩ | ⟨b, o, z, cap, hloc, rfl, hcap, c, ty, f, hb, hsize⟩
      · have hb := run_sliceBounds (P := P) (isSlice := true) (cap := 0) hl hh rl rh h0 h1 h2 (Nat.le_refl _) E.w
        obtain rfl : h' = 0 := by omega
        obtain rfl : l = 0 := by omega
        refine ⟨.slice none 0 0, ?_, .same hF hM ?_⟩
        · simp [Instr.sliceAt, Instr.slice, run_underlying hu, hb, run_sizeOf_tsz hz]
        · simpa using Rep.ownNil (E := E) id ha hloc
      · have hzz := row_loc hM hg hloc
        subst hzz
        have hbnd := run_sliceBounds (P := P) (isSlice := true) (cap := cap) hl hh rl rh h0 h1 h2 hcap E.w
        have e1 : (h' - l).toNat = h'.toNat - l.toNat := by omega
        have hrun : (Instr.sliceAt t (.slice (some ⟨b, o + off * z, none⟩) len cap) vlo vhi none).run P E.w = .ok (.slice (some ⟨b, o + (off + l.toNat) * z, none⟩) (h' - l).toNat (cap - l.toNat)) E.w := by
          rw [e1]
          by_cases hcl : cap = l.toNat
          · have hl0 : l.toNat = 0 := by omega
            rw [hcl, hl0] at hbnd
            simp [Instr.sliceAt, Instr.slice, run_underlying hu, hbnd, run_sizeOf_tsz hz, hcl, hl0]
          · simp [Instr.sliceAt, Instr.slice, run_underlying hu, hbnd, run_sizeOf_tsz hz, hcl, addr_add, Nat.add_mul, Nat.add_assoc]
        refine ⟨_, hrun, .same hF hM ?_⟩
        exact .own id (off + l.toNat) _ b o z _ ha hloc (by omega) ⟨c, ty, f, hb, by rw [show off + l.toNat + (cap - l.toNat) = off + cap by omega]; exact hsize⟩
    split at h
    · rename_i g n l h' sz xs hz hl hh hg
      split at h
      · rename_i hc; obtain rfl := Option.some.inj h; exact main g n l h' sz xs hz hl hh (.inl hg) hc
      · exact absurd h (by simp)
    · rename_i g n l h' sz xs hz hl hh hg
      split at h
      · rename_i hc; obtain rfl := Option.some.inj h; exact main g n l h' sz xs hz hl hh (.inr hg) hc
      · exact absurd h (by simp)
    · exact absurd h (by simp)
  · exact absurd h (by simp)

theorem minmax_sound {E : Env} {P : Program} (isMax : Bool) (k : IntKind) : ∀ {xs : List AV} {cv : List Value} {a m : Int}, minmax isMax a xs = some m → Reps E xs cv → ∀ w,
    (cv.foldlM (if isMax then Builtin.max2 else Builtin.min2) (.int k a)).run P w = .ok (.int k m) w
  | [], cv, a, m, h, hr, w => by
    obtain rfl : cv = [] := by simpa using hr.1
    obtain rfl := Option.some.inj h
    simp
  | x :: xs, cv, a, m, h, hr, w => by
    cases cv with
    | nil => have := hr.1; simp at this
    | cons u cv =>
      cases x with
      | sc v =>
        cases v with
        | int k' b =>
          obtain rfl := (hr.2 0 _ u rfl rfl).sc_inv
          simp only [minmax] at h
          have hr' : Reps E xs cv := drop_reps hr 1
          have ih := minmax_sound (P := P) isMax k h hr' w
          simp only [List.foldlM_cons, Sem.run_bind]
          cases isMax <;> simpa [Builtin.max2, Builtin.min2] using ih
        | _ => simp only [minmax] at h; exact absurd h (by simp)
      | _ => simp only [minmax] at h; exact absurd h (by simp)
end Go.Ab
end

section
namespace Go.Ab
open Go.RowKit (Below)

theorem tnoint_inv {P : Program} {u : TypeId} (h : tnoint P u = true) : ∃ d, P.underlying u = some d ∧ ∀ k, d ≠ .int k := by
  unfold tnoint at h
  split at h
  · exact absurd h (by simp)
  · rename_i d hd hne
    exact ⟨d, hne, fun k e => hd k e⟩
  · exact absurd h (by simp)

theorem run_zeros {P : Program} {u : TypeId} (h : tnoint P u = true) (w : World) : ∃ d, (underlying u).run P w = .ok d w ∧ (match d with | .int _ => true | _ => false) = false := by
  obtain ⟨d, hd, hne⟩ := tnoint_inv h
  refine ⟨d, run_underlying hd w, ?_⟩
  cases d <;> first | rfl | (exact absurd rfl (hne _))

section
variable {P : Program} {t u e : TypeId} {g : Bool} {n b : Nat} {i : TypeInfo} {v : Value} {base : Option Addr} {sLen sCap m : Nat} {x : Value} {w : World} {co cn : Array Value} (ty : TypeId)

theorem run_append_grow (he : P.underlying t = some (.slice e)) (hu : tnoint P u = true) (hz : tsz P e = some (g, n)) (hi : P.info? e = some i) (hzv : i.zero = some v) (hb : 0 < i.bytes)
    (hlen : ∀ w, (Builtin.lenOf x).run P w = .ok m w) (hneed : sCap < sLen + m) (hlim : (sLen + m) * i.bytes ≤ 140737488355328)
    (hold : ∀ w' : World, w'.heap = w.heap → (Builtin.firstCells n sLen (.slice base sLen sCap)).run P w' = .ok co w') (hnew : ∀ w' : World, w'.heap = w.heap → (Builtin.firstCells n m x).run P w' = .ok cn w') :
    ∃ cap, sLen + m ≤ cap ∧ (Builtin.append_ #[t, u] ty #[.slice base sLen sCap, x]).run P w =
      .ok (.slice (some ⟨w.heap.size, 0, none⟩) (sLen + m) cap) (w.drew.alloc (.cells (co ++ cn ++ Builtin.zeroCells v.cells (cap - (sLen + m))) e)) := by
  obtain ⟨d, hd, hdi⟩ := run_zeros hu w
  have h1 : ¬ (sLen + m ≤ sCap) := by omega
  have hle : sLen + m ≤ (sLen + m) * i.bytes := Nat.le_mul_of_pos_right _ hb
  have h2 : ¬ (((sLen + m : Nat) : Int) > IntKind.i64.max ∧ i.bytes = 0) := by omega
  have h3 : ¬ (Builtin.nextslicecap (sLen + m) sCap * i.bytes > 281474976710656) := by have := growslice_fits hneed hlim; omega
  have hti : ∀ w, (typeInfo e).run P w = .ok i w := fun w => by simp [typeInfo, hi]
  have hzr : ∀ w, (zeroValue e).run P w = .ok v w := fun w => by simp [zeroValue, hti, hzv]
  have hq : (Question.appendCap (sLen + m) sCap e).forced = false := rfl
  refine ⟨(Question.appendCap (sLen + m) sCap e).cut (w.tape w.drawn (.appendCap (sLen + m) sCap e)), Nat.le_add_right _ _, ?_⟩
  generalize hcap : (Question.appendCap (sLen + m) sCap e).cut (w.tape w.drawn (.appendCap (sLen + m) sCap e)) = cap
  have ho := hold w.drew rfl
  have hn := hnew w.drew rfl
  cases d with
  | int k => exact absurd hdi (by simp)
  | _ =>
    simp only [Builtin.append_, List.getElem?_toArray, List.getElem?_cons_zero, List.getElem?_cons_succ, Sem.run_bind, run_underlying he, Result.andThen_ok, run_sizeOf_tsz hz, hd, Sem.run_pure, Bool.false_eq_true, if_false, hlen, h1, hti, false_or, h2, Sem.run_ite, Nat.reducePow, h3,
      run_choose, hq, run_askRoom, hcap, newRow, run_newObj, Bool.not_false, if_true]
    show (((Builtin.firstCells n sLen (.slice base sLen sCap)).run P w.drew).andThen _) = _
    simp only [ho, hn, Result.andThen_ok, hzr]
    rfl

theorem run_append_fit (he : P.underlying t = some (.slice e)) (hu : tnoint P u = true) (hz : tsz P e = some (g, n)) (hlen : ∀ w, (Builtin.lenOf x).run P w = .ok m w) (hneed : sLen + m ≤ sCap)
    (hnew : (Builtin.firstCells n m x).run P w = .ok cn w) {a : Addr} {w' : World} (hst : (storeCells (a.add (sLen * n)) cn.toList).run P w = .ok () w') :
    (Builtin.append_ #[t, u] ty #[.slice (some a) sLen sCap, x]).run P w = .ok (.slice (some a) (sLen + m) sCap) w' := by
  obtain ⟨d, hd, hdi⟩ := run_zeros hu w
  cases d with
  | int k => exact absurd hdi (by simp)
  | _ =>
    simp only [Builtin.append_, List.getElem?_toArray, List.getElem?_cons_zero, List.getElem?_cons_succ, Sem.run_bind, run_underlying he, Result.andThen_ok, run_sizeOf_tsz hz, hd, Sem.run_pure, Bool.false_eq_true, if_false, hlen, hneed, Sem.run_ite, if_true, hnew, hst, Bool.not_false]

theorem run_append_nil (he : P.underlying t = some (.slice e)) (hu : tnoint P u = true) (hz : tsz P e = some (g, n)) (hlen : ∀ w, (Builtin.lenOf x).run P w = .ok 0 w)
    (hnew : (Builtin.firstCells n 0 x).run P w = .ok cn w) : (Builtin.append_ #[t, u] ty #[.slice none 0 0, x]).run P w = .ok (.slice none 0 0) w := by
  obtain ⟨d, hd, hdi⟩ := run_zeros hu w
  cases d with
  | int k => exact absurd hdi (by simp)
  | _ =>
    simp only [Builtin.append_, List.getElem?_toArray, List.getElem?_cons_zero, List.getElem?_cons_succ, Sem.run_bind, run_underlying he, Result.andThen_ok, run_sizeOf_tsz hz, hd, Sem.run_pure, Bool.false_eq_true, if_false, hlen, Nat.add_zero, Nat.le_refl, Sem.run_ite, if_true, hnew, Bool.not_false]
end

theorem cell_heap {w w' : World} (h : w'.heap = w.heap) (a : Addr) : w'.cell? a = w.cell? a := by simp only [World.cell?, h]

/-- What an append or a copy reads. -/
theorem cells_read {E : Env} {P : Program} {n : Nat} {es : List (List AV)} {b o : Nat} (hn : 0 < n) (hz : ∀ (i : Nat) (cs : List AV), es[i]? = some cs → cs.length = n)
    (hc : ∀ (i : Nat) (cs : List AV) (j : Nat) (a : AV), es[i]? = some cs → cs[j]? = some a → ∃ y, E.w.cell? ⟨b, o + i * n + j, none⟩ = some y ∧ y.oneCell' = true ∧ RepP E.w E.ok a y) :
    ∃ f : Nat → Value, (∀ m, m ≤ es.length → ∀ w' : World, w'.heap = E.w.heap → (loadCells ⟨b, o, none⟩ (m * n)).run P w' = .ok ((List.range (m * n)).map f).toArray w') ∧
      ∀ (i : Nat) (cs : List AV) (j : Nat) (a : AV), es[i]? = some cs → cs[j]? = some a → (f (i * n + j)).oneCell' = true ∧ RepP E.w E.ok a (f (i * n + j)) := by
  refine ⟨fun k => (E.w.cell? ⟨b, o + k, none⟩).getD undef, fun m hm w' hw => ?_, fun i cs j a hi hj => ?_⟩
  · refine run_loadCells w' _ _ _ fun k hk => ?_
    rw [addr_add, cell_heap hw]
    have h1 : k / n < m := Nat.div_lt_of_lt_mul (by rw [Nat.mul_comm]; exact hk)
    have h2 : k % n < n := Nat.mod_lt _ hn
    have hget : es[k / n]? = some es[k / n] := List.getElem?_eq_getElem (by omega)
    have hl := hz _ _ hget
    obtain ⟨y, hy, _⟩ := hc _ _ (k % n) _ hget (List.getElem?_eq_getElem (by omega))
    have e : o + k / n * n + k % n = o + k := by rw [Nat.add_assoc, Nat.div_add_mod']
    rw [e] at hy
    simp [hy]
  · obtain ⟨y, h1, h2, h3⟩ := hc i cs j a hi hj
    simp only [← Nat.add_assoc, h1, Option.getD_some]
    exact ⟨h2, h3⟩

theorem row_cells {E : Env} {base : Nat} {mem : List (Nat × Arr)} (hM : MemRel E base mem) {id off len sz : Nat} {xs : List (List AV)} (hg : get mem id = some (.row sz xs) ∨ get mem id = some (.frz sz xs)) {b o z : Nat} (hl : E.loc id = some (b, o, z)) :
    (∀ (i : Nat) (cs : List AV), ((xs.drop off).take len)[i]? = some cs → cs.length = sz) ∧ ∀ (i : Nat) (cs : List AV) (j : Nat) (a : AV), ((xs.drop off).take len)[i]? = some cs → cs[j]? = some a →
      ∃ y, E.w.cell? ⟨b, o + off * sz + i * sz + j, none⟩ = some y ∧ y.oneCell' = true ∧ RepP E.w E.ok a y := by
  have hget : ∀ (i : Nat) (cs : List AV), ((xs.drop off).take len)[i]? = some cs → xs[off + i]? = some cs := by
    intro i cs h
    rw [List.getElem?_take] at h
    split at h
    · rwa [List.getElem?_drop] at h
    · exact absurd h (by simp)
  have main : ∀ (c : Array Value) (t : TypeId), E.w.heap[b]? = some (.cells c t (0, 0)) → Cells E.w E.ok c o sz xs → (∀ (i : Nat) (cs : List AV), ((xs.drop off).take len)[i]? = some cs → cs.length = sz) ∧ ∀ (i : Nat) (cs : List AV) (j : Nat) (a : AV), ((xs.drop off).take len)[i]? = some cs → cs[j]? = some a →
      ∃ y, E.w.cell? ⟨b, o + off * sz + i * sz + j, none⟩ = some y ∧ y.oneCell' = true ∧ RepP E.w E.ok a y := by
    intro c t hb hc
    refine ⟨fun i cs hi => (hc _ cs (hget i cs hi)).1, fun i cs j a hi hj => ?_⟩
    obtain ⟨y, h1, h2⟩ := (hc _ cs (hget i cs hi)).2 j a hj
    refine ⟨y, ?_, h2⟩
    rw [cell_at hb, ← h1, Nat.add_mul, ← Nat.add_assoc]
  rcases hg with hg | hg
  · have hr := (hM.arr id _ hg).2
    simp only [ArrRel, hl] at hr
    obtain ⟨c, t, hb, _, _, _, _, hc⟩ := hr
    exact main c t hb hc
  · have hr := (hM.arr id _ hg).2
    simp only [ArrRel, hl] at hr
    obtain ⟨c, t, hb, _, _, _, _, hc⟩ := hr
    exact main c t hb hc

theorem source_sound {E : Env} {P : Program} {base : Nat} {s : AS} {n : Nat} {y : AV} {x : Value} {es : List (List AV)} {rd : List Nat} (hM : MemRel E base s.mem) (hn : 0 < n) (hy : Rep E y x) (h : source s n y = some (es, rd)) :
    (∀ w, (Builtin.lenOf x).run P w = .ok es.length w) ∧ (∀ (i : Nat) (cs : List AV), es[i]? = some cs → cs.length = n) ∧
    ∃ f : Nat → Value, (∀ m, m ≤ es.length → ∀ w' : World, w'.heap = E.w.heap → (Builtin.firstCells n m x).run P w' = .ok ((List.range (m * n)).map f).toArray w') ∧
      ∀ (i : Nat) (cs : List AV) (j : Nat) (a : AV), es[i]? = some cs → cs[j]? = some a → (f (i * n + j)).oneCell' = true ∧ RepP E.w E.ok a (f (i * n + j)) := by
  have empty : ∀ (es : List (List AV)), es = [] → (∀ w, (Builtin.lenOf (.slice none 0 0)).run P w = .ok es.length w) ∧ (∀ (i : Nat) (cs : List AV), es[i]? = some cs → cs.length = n) ∧
      ∃ f : Nat → Value, (∀ m, m ≤ es.length → ∀ w' : World, w'.heap = E.w.heap → (Builtin.firstCells n m (.slice none 0 0)).run P w' = .ok ((List.range (m * n)).map f).toArray w') ∧
      ∀ (i : Nat) (cs : List AV) (j : Nat) (a : AV), es[i]? = some cs → cs[j]? = some a → (f (i * n + j)).oneCell' = true ∧ RepP E.w E.ok a (f (i * n + j)) := by
    rintro es rfl
    exact ⟨fun _ => rfl, by simp, fun _ => undef, fun m hm w' _ => by obtain rfl : m = 0 := by simpa using hm
                                                                      simp [Builtin.firstCells], by simp⟩
  unfold source at h
  split at h
  · obtain ⟨rfl, -⟩ := Prod.mk.inj (Option.some.inj h)
    obtain rfl := hy.nil_inv
    exact empty _ rfl
  · split at h
    · rename_i sz xs hsz
      subst hsz
      obtain ⟨rfl, -⟩ := Prod.mk.inj (Option.some.inj h)
      rcases hy.sl_inv with ⟨rfl, rfl | ⟨a, cap, rfl⟩⟩ | ⟨b, o, cap, rfl, hk, hc, hz, hcell⟩
      · exact empty _ rfl
      · exact ⟨fun _ => rfl, by simp, fun _ => undef, fun m hm w' _ => by obtain rfl : m = 0 := by simpa using hm
                                                                          simp [Builtin.firstCells, loadCells, loadCellsFrom], by simp⟩
      · obtain ⟨f, h1, h2⟩ := cells_read (P := P) hn hz hcell
        exact ⟨fun _ => rfl, hz, f, h1, h2⟩
    · exact absurd h (by simp)
  · rename_i id off len
    have main : ∀ (sz : Nat) (xs : List (List AV)), get s.mem id = some (.row sz xs) ∨ get s.mem id = some (.frz sz xs) → sz = n ∧ off + len ≤ xs.length → es = (xs.drop off).take len →
    (∀ w, (Builtin.lenOf x).run P w = .ok es.length w) ∧ (∀ (i : Nat) (cs : List AV), es[i]? = some cs → cs.length = n) ∧
    ∃ f : Nat → Value, (∀ m, m ≤ es.length → ∀ w' : World, w'.heap = E.w.heap → (Builtin.firstCells n m x).run P w' = .ok ((List.range (m * n)).map f).toArray w') ∧
      ∀ (i : Nat) (cs : List AV) (j : Nat) (a : AV), es[i]? = some cs → cs[j]? = some a → (f (i * n + j)).oneCell' = true ∧ RepP E.w E.ok a (f (i * n + j)) := by
      rintro sz xs hg ⟨rfl, hlen⟩ rfl
      have hll : ((xs.drop off).take len).length = len := by simp; omega
      rcases hy.own_inv.2 with ⟨hl, rfl, rfl, rfl⟩ | ⟨b, o, z, cap, hl, rfl, hc, _⟩
      · exact empty _ (by simp)
      · have hzz := row_loc hM hg hl
        subst hzz
        obtain ⟨hz, hcell⟩ := row_cells (off := off) (len := len) hM hg hl
        obtain ⟨f, h1, h2⟩ := cells_read (P := P) hn hz hcell
        exact ⟨fun _ => by rw [hll]; rfl, hz, f, h1, h2⟩
    split at h
    · rename_i sz xs hg
      split at h
      · rename_i hc
        obtain ⟨e, -⟩ := Prod.mk.inj (Option.some.inj h)
        exact main sz xs (.inl hg) hc e.symm
      · exact absurd h (by simp)
    · rename_i sz xs hg
      split at h
      · rename_i hc
        obtain ⟨e, -⟩ := Prod.mk.inj (Option.some.inj h)
        exact main sz xs (.inr hg) hc e.symm
      · exact absurd h (by simp)
    · exact absurd h (by simp)
  · rename_i b
    split at h
    · rename_i h1
      subst h1
      obtain ⟨rfl, -⟩ := Prod.mk.inj (Option.some.inj h)
      obtain rfl := hy.sc_inv
      have hbl : b.toList.length = b.size := by rw [ByteArray.toList_eq]; rfl
      refine ⟨fun _ => by simp [Builtin.lenOf, hbl], fun i cs hi => ?_, fun k => .int .u8 ((b.toList.getD k 0).toNat : Int), fun m hm w' _ => ?_, fun i cs j a hi hj => ?_⟩
      · simp only [List.getElem?_map, Option.map_eq_some_iff] at hi
        obtain ⟨c, _, rfl⟩ := hi
        rfl
      · simp only [List.length_map, hbl] at hm
        simp only [Builtin.firstCells, Sem.run_pure]
        congr 1
        apply Array.ext'
        simp only [Nat.mul_one]
        apply List.ext_getElem?
        intro k
        rw [ByteArray.toList_eq]
        simp only [ByteArray.data_extract, Array.toList_map, Array.toList_extract, List.getElem?_map, List.getElem?_range]
        by_cases hk : k < m
        · have hkb : k < b.data.toList.length := by simpa using (by omega : k < b.size)
          simp [hk, List.extract_eq_take_drop, List.getElem?_take, List.getD_eq_getElem?_getD, List.getElem?_eq_getElem hkb, Array.getElem?_eq_getElem (show k < b.data.size by simpa using hkb)]
        · simp [hk, List.extract_eq_take_drop, List.getElem?_take]
      · simp only [List.getElem?_map, Option.map_eq_some_iff] at hi
        obtain ⟨c, hc, rfl⟩ := hi
        cases j with
        | zero =>
          obtain rfl := Option.some.inj hj
          simp only [Nat.mul_one, Nat.add_zero, List.getD_eq_getElem?_getD, hc, Option.getD_some]
          exact ⟨rfl, .sc _⟩
        | succ j => simp at hj
    · exact absurd h (by simp)
  · exact absurd h (by simp)
end Go.Ab
end
