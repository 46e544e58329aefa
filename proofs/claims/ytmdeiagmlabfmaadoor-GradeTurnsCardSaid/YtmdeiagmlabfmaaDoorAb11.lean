/- The abstract interpreter: literals, makes, stores. -/
import Derived.Test.YtmdeiagmlabfmaaDoorAb9
import Derived.Laws.Tables
import Derived.Laws.MakeOwn
import Derived.Great.FillDense
set_option linter.unusedVariables false
set_option linter.unusedSimpArgs false
set_option linter.unusedSectionVars false

section
namespace Go.Ab
open Go.RowKit (Below)

/-- Cells of one cell each, with what they are. -/
def Ones (E : Env) (cs : List AV) (cv : List Value) : Prop := Reps E cs cv ∧ ∀ v, v ∈ cv → v.oneCell' = true

theorem Ones.mono {E E' : Env} (hle : E.Le E') {cs : List AV} {cv : List Value} (h : Ones E cs cv) : Ones E' cs cv := ⟨⟨h.1.1, fun j c v a b => (h.1.2 j c v a b).mono hle⟩, h.2⟩
theorem Ones.append {E : Env} {a b : List AV} {x y : List Value} (h : Ones E a x) (k : Ones E b y) : Ones E (a ++ b) (x ++ y) := by
  refine ⟨⟨by simp [h.1.1, k.1.1], fun j c v hc hv => ?_⟩, fun v hv => (List.mem_append.1 hv).elim (h.2 v) (k.2 v)⟩
  by_cases hj : j < a.length
  · rw [List.getElem?_append_left hj] at hc
    rw [List.getElem?_append_left (by rw [h.1.1]; exact hj)] at hv
    exact h.1.2 j c v hc hv
  · rw [List.getElem?_append_right (by omega)] at hc
    rw [List.getElem?_append_right (by rw [h.1.1]; omega), h.1.1] at hv
    exact k.1.2 _ c v hc hv
theorem Ones.take {E : Env} {a : List AV} {x : List Value} (h : Ones E a x) (n : Nat) : Ones E (a.take n) (x.take n) := ⟨take_reps h.1 n, fun v hv => h.2 v (List.mem_of_mem_take hv)⟩
theorem Ones.drop {E : Env} {a : List AV} {x : List Value} (h : Ones E a x) (n : Nat) : Ones E (a.drop n) (x.drop n) := ⟨drop_reps h.1 n, fun v hv => h.2 v (List.mem_of_mem_drop hv)⟩
theorem Ones.get {E : Env} {a : List AV} {x : List Value} (h : Ones E a x) {j : Nat} {c : AV} (hc : a[j]? = some c) : ∃ v, x[j]? = some v ∧ v.oneCell' = true ∧ Rep E c v := by
  obtain ⟨v, hv⟩ : ∃ v, x[j]? = some v := ⟨_, List.getElem?_eq_getElem (by have := (List.getElem?_eq_some_iff.1 hc).1; rw [h.1.1]; exact this)⟩
  exact ⟨v, hv, h.2 v (List.mem_of_getElem? hv), h.1.2 j c v hc hv⟩

theorem splice_ones {E : Env} {cs vs cs' : List AV} {x y : List Value} {j : Nat} (h : splice cs j vs = some cs') (hx : Ones E cs x) (hy : Ones E vs y) : Ones E cs' (x.take j ++ y ++ x.drop (j + y.length)) := by
  unfold splice at h
  split at h
  · obtain rfl := Option.some.inj h
    rw [hy.1.1]
    exact ((hx.take j).append hy).append (hx.drop _)
  · exact absurd h (by simp)

/-- Cells set one by one. -/
theorem foldl_splice (off : Nat) (v : List Value) (c : Array Value) (h : off + v.length ≤ c.size) :
    (v.toArray.zipIdx.foldl (fun cs (x : Value × Nat) => cs.setIfInBounds (off + x.2) x.1) c).toList = c.toList.take off ++ v ++ c.toList.drop (off + v.length) := by
  have key : ∀ (v : List Value) (s : Nat) (c : Array Value), off + s + v.length ≤ c.size →
      ((v.zipIdx s).foldl (fun cs (x : Value × Nat) => cs.setIfInBounds (off + x.2) x.1) c).toList = c.toList.take (off + s) ++ v ++ c.toList.drop (off + s + v.length) := by
    intro v
    induction v with
    | nil => intro s c h; simp
    | cons a v ih =>
      intro s c h
      simp only [List.length_cons] at h
      simp only [List.zipIdx_cons, List.foldl_cons]
      rw [ih (s + 1) _ (by simp; omega)]
      apply List.ext_getElem?
      intro k
      have hl : (c.setIfInBounds (off + s) a).toList = c.toList.set (off + s) a := by simp
      rw [hl]
      simp only [List.append_assoc, List.getElem?_append, List.length_take, List.length_set, Array.length_toList, List.getElem?_take, List.getElem?_set, List.getElem?_drop, List.length_cons]
      have e1 : min (off + (s + 1)) c.size = off + s + 1 := by omega
      have e2 : min (off + s) c.size = off + s := by omega
      rw [e1, e2]
      by_cases hk : k < off + s
      · have : ¬ (off + s = k) := by omega
        simp [hk, show k < off + s + 1 by omega, show k < off + (s + 1) by omega, this]
      · by_cases hk2 : k = off + s
        · subst hk2
          have : off + s < c.size := by omega
          simp [this]
        · have h1 : ¬ (k < off + s + 1) := by omega
          rw [if_neg h1, if_neg hk]
          obtain ⟨m, rfl⟩ : ∃ m, k = off + s + 1 + m := ⟨k - (off + s + 1), by omega⟩
          rw [show off + s + 1 + m - (off + s + 1) = m by omega, show off + s + 1 + m - (off + s) = m + 1 by omega]
          simp only [Nat.add_lt_add_iff_right, List.getElem?_cons_succ]
          split
          · rfl
          · have : ¬ (off + s = off + (s + 1) + v.length + (m - v.length)) := by omega
            rw [if_neg this]
            congr 1
            omega
  have := key v 0 c (by simpa using h)
  simpa [Array.foldl_toList] using this

theorem fill_sound {E : Env} (place : Nat → Option (Nat × Nat)) : ∀ {ps : List (Nat × AV)} {pv : List (Nat × Value)} {cs cs' : List AV} {c : Array Value}, fillParts place cs ps = some cs' →
    pv.map (·.1) = ps.map (·.1) → Reps E (ps.map (·.2)) (pv.map (·.2)) → Ones E cs c.toList → ∃ c', Instr.fill place c pv = some c' ∧ Ones E cs' c'.toList
  | [], pv, cs, cs', c, h, hi, hr, ho => by
    obtain rfl : pv = [] := by simpa using hi
    obtain rfl := Option.some.inj h
    exact ⟨c, rfl, ho⟩
  | (i, v) :: ps, pv, cs, cs', c, h, hi, hr, ho => by
    cases pv with
    | nil => simp at hi
    | cons p pv =>
      obtain ⟨i', x⟩ := p
      simp only [List.map_cons, List.cons.injEq] at hi
      obtain ⟨rfl, hi⟩ := hi
      have hx : Rep E v x := hr.2 0 v x rfl rfl
      have hr' : Reps E (ps.map (·.2)) (pv.map (·.2)) := drop_reps hr 1
      unfold fillParts at h
      split at h
      · rename_i o n vs hp hcv
        split at h
        · rename_i hn
          split at h
          · rename_i cs1 hs
            obtain ⟨cv, hxc, h1, hrc⟩ := cells_sound hcv hx
            have hlen : cv.length = n := by rw [hrc.1, hn]
            have hsp := splice_ones hs ho ⟨hrc, h1⟩
            have hb : o + cv.length ≤ c.size := by
              unfold splice at hs
              split at hs
              · rename_i hle; have e := ho.1.1; rw [Array.length_toList] at e; rw [hrc.1]; omega
              · exact absurd hs (by simp)
            have hf := foldl_splice o cv c hb
            obtain ⟨c', hc', ho'⟩ := fill_sound (c := x.cells.zipIdx.foldl (fun cs (y : Value × Nat) => cs.setIfInBounds (o + y.2) y.1) c) place h hi hr' (by rw [hxc, hf]; exact hsp)
            refine ⟨c', ?_, ho'⟩
            unfold Instr.fill
            simp only [hp]
            have hsz : x.cells.size = cv.length := by rw [hxc]; simp
            rw [if_neg (by rw [hsz, hlen]; simp; omega)]
            exact hc'
          · exact absurd h (by simp)
        · exact absurd h (by simp)
      · exact absurd h (by simp)

theorem oprs2_sound {E : Env} {s : AS} {a : Act} (hT : TmOk E s a) : ∀ {l : List (Nat × Operand)} {vs : List (Nat × AV)}, oprs2 s l = some vs →
    (l.map fun p => (p.1, a.eval p.2)).map (·.1) = vs.map (·.1) ∧ Reps E (vs.map (·.2)) ((l.map fun p => (p.1, a.eval p.2)).map (·.2))
  | [], vs, h => by obtain rfl := Option.some.inj h; exact ⟨rfl, rfl, by simp⟩
  | (i, x) :: r, vs, h => by
    unfold oprs2 at h
    split at h
    · rename_i v vs' hx hr
      obtain rfl := Option.some.inj h
      obtain ⟨h1, h2⟩ := oprs2_sound hT hr
      refine ⟨by simpa using h1, by simpa using h2.1, fun j c v' hc hv => ?_⟩
      cases j with
      | zero => simp at hc hv; subst hc hv; exact opr_sound hT hx
      | succ j => exact h2.2 j c v' (by simpa using hc) (by simpa using hv)
    · exact absurd h (by simp)

theorem build_sound {E : Env} {P : Program} {w0 : World} {okb : Nat → Prop} {s : AS} {t : TypeId} {ps : List (Nat × AV)} {pv : Array (Nat × Value)} {r : Res} (hF : Frm E w0 okb) (hM : MemRel E w0.heap.size s.mem)
    (hi : pv.toList.map (·.1) = ps.map (·.1)) (hr : Reps E (ps.map (·.2)) (pv.toList.map (·.2))) (h : buildE P s t ps = some r) :
    ∃ y, (Instr.build t pv).run P E.w = .ok y E.w ∧ Stepped E w0 okb s.mem s.nx r y E := by
  unfold buildE at h
  split at h
  · rename_i pl z hpl hz
    split at h
    · rename_i cs hcs
      obtain rfl := Option.some.inj h
      obtain ⟨it, v, hit, hzv, rfl, h1⟩ := tzero_inv hz
      obtain ⟨c', hc', ho⟩ := fill_sound (c := v.cells) (pl[·]?) hcs hi hr ⟨Reps.map_const E _, fun u hu => (List.all_eq_true.1 h1) u hu⟩
      unfold tplaces at hpl
      split at hpl
      · rename_i fs hu
        refine ⟨.agg c', run_build E.w t pv c' ?_, .same hF hM ?_⟩
        · simp only [Program.built, hit, hu, hzv, hpl]
          simpa using hc'
        · have := Rep.agg cs c'.toList ho.1.1 ho.2 ho.1.2
          simpa using this
      · exact absurd hpl (by simp)
    · exact absurd h (by simp)
  · exact absurd h (by simp)
end Go.Ab
end

section
namespace Go.Ab
open Go.RowKit (Below)

def OnesP (w : World) (ok : Nat → Prop) (cs : List AV) (cv : List Value) : Prop := cv.length = cs.length ∧ (∀ (j : Nat) (c : AV) (v : Value), cs[j]? = some c → cv[j]? = some v → RepP w ok c v) ∧ ∀ v, v ∈ cv → v.oneCell' = true

theorem OnesP.mono {w w' : World} {ok ok' : Nat → Prop} (hok : ∀ b, ok b → ok' b) (hb : ∀ b, ok b → w'.heap[b]? = w.heap[b]?) {cs : List AV} {cv : List Value} (h : OnesP w ok cs cv) : OnesP w' ok' cs cv :=
  ⟨h.1, fun j c v a b => (h.2.1 j c v a b).mono hok hb, h.2.2⟩

/-- The block of a row is read from now on. -/
def Env.read (E : Env) (b : Nat) : Env := { E with ok := fun k => E.ok k ∨ k = b }

theorem freeze_block {E : Env} {w0 : World} {okb : Nat → Prop} {mem : List (Nat × Arr)} (hF : Frm E w0 okb) (hM : MemRel E w0.heap.size mem) {id sz : Nat} {xs : List (List AV)} (hg : get mem id = some (.row sz xs)) :
    ∃ E', E'.w = E.w ∧ E'.al = E.al ∧ E'.loc = E.loc ∧ E.Le E' ∧ Frm E' w0 okb ∧ MemRel E' w0.heap.size ((id, .frz sz xs) :: mem) ∧ ∀ b o z, E.loc id = some (b, o, z) → E'.ok b := by
  have hr := (hM.arr id _ hg).2
  have hal := (hM.arr id _ hg).1
  cases hl : E.loc id with
  | none =>
    refine ⟨E, rfl, rfl, rfl, .refl E, hF, hM.cons hal ?_ (fun h => by cases h), fun b o z h => by cases h⟩
    simp only [ArrRel, hl] at hr ⊢
    exact hr
  | some p =>
    obtain ⟨b, o, z⟩ := p
    simp only [ArrRel, hl] at hr
    obtain ⟨c, t, hb, hbase, hnok, hsz, hz, hc⟩ := hr
    have hle : E.Le (E.read b) := ⟨fun _ h => .inl h, fun _ _ => rfl, fun _ h => ⟨h, rfl⟩, fun _ c t f h => ⟨c, f, h, rfl⟩⟩
    refine ⟨E.read b, rfl, rfl, rfl, hle, ⟨hF.below, fun k hk h => ?_, fun k h => ?_⟩, ?_, fun b' o' z' h => ?_⟩
    · rcases h with h | rfl
      · exact hF.okb k hk h
      · omega
    · rcases h with h | rfl
      · exact hF.lt k h
      · exact lt_of_blk hb
    · have key : ∀ i a, i ≠ id → get mem i = some a → E.al i ∧ ArrRel (E.read b) w0.heap.size i a := by
        intro i a hne hgi
        obtain ⟨hali, hri⟩ := hM.arr i a hgi
        refine ⟨hali, hri.mono hle hali fun hma b' o' z' hl' => ⟨rfl, ?_⟩⟩
        rintro (h | rfl)
        · revert h
          cases a with
          | row sz xs => simp only [ArrRel, hl'] at hri; obtain ⟨_, _, _, _, h, _⟩ := hri; exact h
          | box cs => obtain ⟨b2, c2, t2, h2, _, _, h, _⟩ := hri; rw [hl'] at h2; obtain ⟨rfl, -⟩ := Prod.mk.inj (Option.some.inj h2); exact h
          | frz _ _ => cases hma
          | dead => cases hma
        · exact hne (hM.far i id a _ _ o' z' o z hgi hg hma rfl hl' hl)
      refine ⟨fun i a hgi => ?_, fun i i' a a' b1 o1 z1 o2 z2 h1 h2 m1 m2 l1 l2 => ?_⟩
      · rw [get_cons] at hgi
        split at hgi
        · rename_i e; subst e; obtain rfl := Option.some.inj hgi
          refine ⟨hal, ?_⟩
          simp only [ArrRel, Env.read, hl]
          exact ⟨c, t, hb, hbase, .inr trivial, hsz, hz, hc.mono (fun _ h => .inl h) (fun _ _ => rfl)⟩
        · rename_i e; exact key i a (fun q => e q.symm) hgi
      · rw [get_cons] at h1 h2
        split at h1
        · obtain rfl := Option.some.inj h1; cases m1
        · split at h2
          · obtain rfl := Option.some.inj h2; cases m2
          · exact hM.far i i' a a' b1 o1 z1 o2 z2 h1 h2 m1 m2 l1 l2
    · obtain ⟨rfl, -⟩ := Prod.mk.inj (Option.some.inj h)
      exact .inr rfl

/-- A row that is frozen, as a value. -/
theorem frz_rep {E : Env} {base : Nat} {mem : List (Nat × Arr)} (hM : MemRel E base mem) {id off len sz : Nat} {xs : List (List AV)} (hg : get mem id = some (.frz sz xs)) {x : Value} (hx : Rep E (.own id off len) x) (hlen : off + len ≤ xs.length) :
    RepP E.w E.ok (.sl sz ((xs.drop off).take len)) x := by
  have hr := (hM.arr id _ hg).2
  rcases hx.own_inv.2 with ⟨hl, rfl, rfl, rfl⟩ | ⟨b, o, z, cap, hl, rfl, hc, _⟩
  · simpa using RepP.slNil sz
  · simp only [ArrRel, hl] at hr
    obtain ⟨c, t, hb, hbase, hok, hsz, hz, hcell⟩ := hr
    have hlen' : ((xs.drop off).take len).length = len := by simp; omega
    by_cases h0 : xs = []
    · subst h0
      obtain ⟨rfl, rfl⟩ : off = 0 ∧ len = 0 := by simp at hlen; omega
      have := RepP.sl (w := E.w) (ok := E.ok) sz [] b (o + 0 * z) cap (fun _ _ => undef) hok (by simp) (by simp) (by simp) (by simp) (by simp)
      simpa using this
    · have hzz := hz
      subst hzz
      have hget : ∀ (i : Nat) (cs : List AV), ((xs.drop off).take len)[i]? = some cs → xs[off + i]? = some cs := by
        intro i cs h
        rw [List.getElem?_take] at h
        split at h
        · rwa [List.getElem?_drop] at h
        · exact absurd h (by simp)
      have hcells : ∀ (i : Nat) (cs : List AV) (j : Nat) (a : AV), ((xs.drop off).take len)[i]? = some cs → cs[j]? = some a → ∃ y, c[o + off * z + i * z + j]? = some y ∧ y.oneCell' = true ∧ RepP E.w E.ok a y := by
        intro i cs j a hi hj
        have := (hcell (off + i) cs (hget i cs hi)).2 j a hj
        rwa [Nat.add_mul, ← Nat.add_assoc] at this
      have hc' : ((xs.drop off).take len).length ≤ cap := by omega
      have := RepP.sl (w := E.w) (ok := E.ok) z ((xs.drop off).take len) b (o + off * z) cap (fun i j => (c[o + off * z + i * z + j]?).getD undef) hok hc' (fun i cs hi => (hcell (off + i) cs (hget i cs hi)).1)
        (fun i cs j a hi hj => by obtain ⟨y, h1, h2, h3⟩ := hcells i cs j a hi hj; rw [cell_at hb]; simp [h1])
        (fun i cs j a hi hj => by obtain ⟨y, h1, h2, h3⟩ := hcells i cs j a hi hj; simpa [h1] using h2)
        (fun i cs j a hi hj => by obtain ⟨y, h1, h2, h3⟩ := hcells i cs j a hi hj; simpa [h1] using h3)
      rwa [hlen'] at this

structure Frozen (E : Env) (w0 : World) (okb : Nat → Prop) (mem' : List (Nat × Arr)) (E' : Env) : Prop where
  w : E'.w = E.w
  al : E'.al = E.al
  loc : E'.loc = E.loc
  le : E.Le E'
  frm : Frm E' w0 okb
  mem : MemRel E' w0.heap.size mem'
theorem Frozen.refl {E : Env} {w0 : World} {okb : Nat → Prop} {mem : List (Nat × Arr)} (hF : Frm E w0 okb) (hM : MemRel E w0.heap.size mem) : Frozen E w0 okb mem E := ⟨rfl, rfl, rfl, .refl E, hF, hM⟩
theorem Frozen.trans {A B C : Env} {w0 : World} {okb : Nat → Prop} {m1 m2 : List (Nat × Arr)} (h : Frozen A w0 okb m1 B) (k : Frozen B w0 okb m2 C) : Frozen A w0 okb m2 C :=
  ⟨k.w.trans h.w, k.al.trans h.al, k.loc.trans h.loc, h.le.trans k.le, k.frm, k.mem⟩

theorem pureCell_sound {E : Env} {w0 : World} {okb : Nat → Prop} {mem : List (Nat × Arr)} {c c' : AV} {d : List (Nat × Arr)} {rd : List Nat} {x : Value} (hF : Frm E w0 okb) (hM : MemRel E w0.heap.size mem) (hx : Rep E c x)
    (h : pureCell mem c = some (c', d, rd)) : ∃ E', Frozen E w0 okb (d ++ mem) E' ∧ RepP E'.w E'.ok c' x := by
  have pu : ∀ (a : AV), (∀ x, Rep E a x → RepP E.w E.ok a x) → c = a → some (a, ([] : List (Nat × Arr)), ([] : List Nat)) = some (c', d, rd) → ∃ E', Frozen E w0 okb (d ++ mem) E' ∧ RepP E'.w E'.ok c' x := by
    rintro a ha rfl e
    simp only [Option.some.injEq, Prod.mk.injEq] at e
    obtain ⟨rfl, rfl, rfl⟩ := e
    exact ⟨E, .refl hF hM, ha x hx⟩
  unfold pureCell at h
  split at h
  · rename_i id off len
    split at h
    · rename_i sz xs hg
      split at h
      · rename_i hlen
        simp only [Option.some.injEq, Prod.mk.injEq] at h
        obtain ⟨rfl, rfl, rfl⟩ := h
        obtain ⟨E', h1, h2, h3, h4, h5, h6, h7⟩ := freeze_block hF hM hg
        exact ⟨E', ⟨h1, h2, h3, h4, h5, h6⟩, frz_rep h6 (by rw [get_cons, if_pos rfl]) (hx.mono h4) hlen⟩
      · exact absurd h (by simp)
    · rename_i sz xs hg
      split at h
      · rename_i hlen
        simp only [Option.some.injEq, Prod.mk.injEq] at h
        obtain ⟨rfl, rfl, rfl⟩ := h
        exact ⟨E, .refl hF hM, frz_rep hM hg hx hlen⟩
      · exact absurd h (by simp)
    · exact absurd h (by simp)
  · exact pu _ (fun x hx => by cases hx with | pure h => exact h) rfl h
  · exact pu _ (fun x hx => by cases hx with | pure h => exact h) rfl h
  · exact pu _ (fun x hx => by cases hx with | pure h => exact h) rfl h
  · exact absurd h (by simp)

theorem pureCells_sound {w0 : World} {okb : Nat → Prop} : ∀ {cs cs' : List AV} {E : Env} {mem d : List (Nat × Arr)} {rd : List Nat} {cv : List Value}, Frm E w0 okb → MemRel E w0.heap.size mem → Ones E cs cv →
    pureCells mem cs = some (cs', d, rd) → ∃ E', Frozen E w0 okb (d ++ mem) E' ∧ OnesP E'.w E'.ok cs' cv
  | [], cs', E, mem, d, rd, cv, hF, hM, ho, h => by
    simp only [pureCells, Option.some.injEq, Prod.mk.injEq] at h
    obtain ⟨rfl, rfl, rfl⟩ := h
    exact ⟨E, .refl hF hM, ho.1.1, by simp, ho.2⟩
  | c :: r, cs', E, mem, d, rd, cv, hF, hM, ho, h => by
    cases cv with
    | nil => have := ho.1.1; simp at this
    | cons x cv =>
      unfold pureCells at h
      split at h
      · rename_i c' d1 rd1 hc
        split at h
        · rename_i r' d2 rd2 hr
          simp only [Option.some.injEq, Prod.mk.injEq] at h
          obtain ⟨rfl, rfl, rfl⟩ := h
          obtain ⟨E1, f1, p1⟩ := pureCell_sound hF hM (ho.1.2 0 c x rfl rfl) hc
          obtain ⟨E2, f2, p2⟩ := pureCells_sound f1.frm f1.mem ((ho.drop 1).mono f1.le) hr
          refine ⟨E2, by rw [List.append_assoc]; exact f1.trans f2, by simpa using p2.1, fun j c v hj hv => ?_, ho.2⟩
          cases j with
          | zero => simp at hj hv; subst hj hv; exact p1.mono f2.le.ok f2.le.blk
          | succ j => exact p2.2.1 j c v (by simpa using hj) (by simpa using hv)
        · exact absurd h (by simp)
      · exact absurd h (by simp)
end Go.Ab
end
