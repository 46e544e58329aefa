/- The abstract interpreter: rows that are frozen; slices made; stores. -/
import Derived.Test.YtchibfkcphbmjaaAb10
set_option linter.unusedVariables false
set_option linter.unusedSimpArgs false
set_option linter.unusedSectionVars false

namespace Go.Ab
open Go.RowKit (Below)

def OnesP (w : World) (ok : Nat → Prop) (cs : List AV) (cv : List Value) : Prop := cv.length = cs.length ∧ (∀ (j : Nat) (c : AV) (v : Value), cs[j]? = some c → cv[j]? = some v → RepP w ok c v) ∧ ∀ v, v ∈ cv → v.oneCell' = true

theorem OnesP.mono {w w' : World} {ok ok' : Nat → Prop} (hok : ∀ b, ok b → ok' b) (hb : ∀ b, ok b → w'.heap[b]? = w.heap[b]?) {cs : List AV} {cv : List Value} (h : OnesP w ok cs cv) : OnesP w' ok' cs cv :=
  ⟨h.1, fun j c v a b => (h.2.1 j c v a b).mono hok hb, h.2.2⟩

/-- The block of a row is read from now on. -/
def Env.read (E : Env) (b : Nat) : Env := { E with ok := fun k => E.ok k ∨ k = b }

theorem freeze_block {E : Env} {w0 : World} {okb : Nat → Prop} {mem : List (Nat × Arr)} (hF : Frm E w0 okb) (hM : MemRel E w0.heap.size mem) {id sz : Nat} {xs : List (List AV)} (hg : get mem id = some (.row sz xs)) :
    ∃ E', E'.w = E.w ∧ E'.al = E.al ∧ E'.loc = E.loc ∧ E.Le E' ∧ Frm E' w0 okb ∧ MemRel E' w0.heap.size ((id, .frz sz xs) :: mem) ∧ ∀ b o z, E.loc id = some (b, o, z) → E'.ok b := by
  have hr := (hM.arr id _ hg).2
  have hal := (hM.arr id _ hg).1
  cases hl : E.loc id with
  | none =>
    refine ⟨E, rfl, rfl, rfl, .refl E, hF, hM.cons hal ?_ (fun h => by cases h), fun b o z h => by cases h⟩
    simp only [ArrRel, hl] at hr ⊢
    exact hr
  | some p =>
    obtain ⟨b, o, z⟩ := p
    simp only [ArrRel, hl] at hr
    obtain ⟨c, t, hb, hbase, hnok, hsz, hz, hc⟩ := hr
    have hle : E.Le (E.read b) := ⟨fun _ h => .inl h, fun _ _ => rfl, fun _ h => ⟨h, rfl⟩, fun _ c t f h => ⟨c, f, h, rfl⟩⟩
    refine ⟨E.read b, rfl, rfl, rfl, hle, ⟨hF.below, fun k hk h => ?_, fun k h => ?_⟩, ?_, fun b' o' z' h => ?_⟩
    · rcases h with h | rfl
      · exact hF.okb k hk h
      · omega
    · rcases h with h | rfl
      · exact hF.lt k h
      · exact lt_of_blk hb
    · have key : ∀ i a, i ≠ id → get mem i = some a → E.al i ∧ ArrRel (E.read b) w0.heap.size i a := by
        intro i a hne hgi
        obtain ⟨hali, hri⟩ := hM.arr i a hgi
        refine ⟨hali, hri.mono hle hali fun hma b' o' z' hl' => ⟨rfl, ?_⟩⟩
        rintro (h | rfl)
        · revert h
          cases a with
          | row sz xs => simp only [ArrRel, hl'] at hri; obtain ⟨_, _, _, _, h, _⟩ := hri; exact h
          | box cs => obtain ⟨b2, c2, t2, h2, _, _, h, _⟩ := hri; rw [hl'] at h2; obtain ⟨rfl, -⟩ := Prod.mk.inj (Option.some.inj h2); exact h
          | frz _ _ => cases hma
          | dead => cases hma
        · exact hne (hM.far i id a _ _ o' z' o z hgi hg hma rfl hl' hl)
      refine ⟨fun i a hgi => ?_, fun i i' a a' b1 o1 z1 o2 z2 h1 h2 m1 m2 l1 l2 => ?_⟩
      · rw [get_cons] at hgi
        split at hgi
        · rename_i e; subst e; obtain rfl := Option.some.inj hgi
          refine ⟨hal, ?_⟩
          simp only [ArrRel, Env.read, hl]
          exact ⟨c, t, hb, hbase, .inr trivial, hsz, hz, hc.mono (fun _ h => .inl h) (fun _ _ => rfl)⟩
        · rename_i e; exact key i a (fun q => e q.symm) hgi
      · rw [get_cons] at h1 h2
        split at h1
        · obtain rfl := Option.some.inj h1; cases m1
        · split at h2
          · obtain rfl := Option.some.inj h2; cases m2
          · exact hM.far i i' a a' b1 o1 z1 o2 z2 h1 h2 m1 m2 l1 l2
    · obtain ⟨rfl, -⟩ := Prod.mk.inj (Option.some.inj h)
      exact .inr rfl

/-- A row that is frozen, as a value. -/
theorem frz_rep {E : Env} {base : Nat} {mem : List (Nat × Arr)} (hM : MemRel E base mem) {id off len sz : Nat} {xs : List (List AV)} (hg : get mem id = some (.frz sz xs)) {x : Value} (hx : Rep E (.own id off len) x) (hlen : off + len ≤ xs.length) :
    RepP E.w E.ok (.sl sz ((xs.drop off).take len)) x := by
  have hr := (hM.arr id _ hg).2
  rcases hx.own_inv.2 with ⟨hl, rfl, rfl, rfl⟩ | ⟨b, o, z, cap, hl, rfl, hc, _⟩
  · simpa using RepP.slNil sz
  · simp only [ArrRel, hl] at hr
    obtain ⟨c, t, hb, hbase, hok, hsz, hz, hcell⟩ := hr
    have hlen' : ((xs.drop off).take len).length = len := by simp; omega
    by_cases h0 : xs = []
    · subst h0
      obtain ⟨rfl, rfl⟩ : off = 0 ∧ len = 0 := by simp at hlen; omega
      have := RepP.sl (w := E.w) (ok := E.ok) sz [] b (o + 0 * z) cap (fun _ _ => undef) hok (by simp) (by simp) (by simp) (by simp) (by simp)
      simpa using this
    · have hzz := hz
      subst hzz
      have hget : ∀ (i : Nat) (cs : List AV), ((xs.drop off).take len)[i]? = some cs → xs[off + i]? = some cs := by
        intro i cs h
        rw [List.getElem?_take] at h
        split at h
        · rwa [List.getElem?_drop] at h
        · exact absurd h (by simp)
      have hcells : ∀ (i : Nat) (cs : List AV) (j : Nat) (a : AV), ((xs.drop off).take len)[i]? = some cs → cs[j]? = some a → ∃ y, c[o + off * z + i * z + j]? = some y ∧ y.oneCell' = true ∧ RepP E.w E.ok a y := by
        intro i cs j a hi hj
        have := (hcell (off + i) cs (hget i cs hi)).2 j a hj
        rwa [Nat.add_mul, ← Nat.add_assoc] at this
      have hc' : ((xs.drop off).take len).length ≤ cap := by omega
      have := RepP.sl (w := E.w) (ok := E.ok) z ((xs.drop off).take len) b (o + off * z) cap (fun i j => (c[o + off * z + i * z + j]?).getD undef) hok hc' (fun i cs hi => (hcell (off + i) cs (hget i cs hi)).1)
        (fun i cs j a hi hj => by obtain ⟨y, h1, h2, h3⟩ := hcells i cs j a hi hj; rw [cell_at hb]; simp [h1])
        (fun i cs j a hi hj => by obtain ⟨y, h1, h2, h3⟩ := hcells i cs j a hi hj; simpa [h1] using h2)
        (fun i cs j a hi hj => by obtain ⟨y, h1, h2, h3⟩ := hcells i cs j a hi hj; simpa [h1] using h3)
      rwa [hlen'] at this

structure Frozen (E : Env) (w0 : World) (okb : Nat → Prop) (mem' : List (Nat × Arr)) (E' : Env) : Prop where
  w : E'.w = E.w
  al : E'.al = E.al
  loc : E'.loc = E.loc
  le : E.Le E'
  frm : Frm E' w0 okb
  mem : MemRel E' w0.heap.size mem'
theorem Frozen.refl {E : Env} {w0 : World} {okb : Nat → Prop} {mem : List (Nat × Arr)} (hF : Frm E w0 okb) (hM : MemRel E w0.heap.size mem) : Frozen E w0 okb mem E := ⟨rfl, rfl, rfl, .refl E, hF, hM⟩
theorem Frozen.trans {A B C : Env} {w0 : World} {okb : Nat → Prop} {m1 m2 : List (Nat × Arr)} (h : Frozen A w0 okb m1 B) (k : Frozen B w0 okb m2 C) : Frozen A w0 okb m2 C :=
  ⟨k.w.trans h.w, k.al.trans h.al, k.loc.trans h.loc, h.le.trans k.le, k.frm, k.mem⟩

theorem pureCell_sound {E : Env} {w0 : World} {okb : Nat → Prop} {mem : List (Nat × Arr)} {c c' : AV} {d : List (Nat × Arr)} {rd : List Nat} {x : Value} (hF : Frm E w0 okb) (hM : MemRel E w0.heap.size mem) (hx : Rep E c x)
    (h : pureCell mem c = some (c', d, rd)) : ∃ E', Frozen E w0 okb (d ++ mem) E' ∧ RepP E'.w E'.ok c' x := by
  have pu : ∀ (a : AV), (∀ x, Rep E a x → RepP E.w E.ok a x) → c = a → some (a, ([] : List (Nat × Arr)), ([] : List Nat)) = some (c', d, rd) → ∃ E', Frozen E w0 okb (d ++ mem) E' ∧ RepP E'.w E'.ok c' x := by
    rintro a ha rfl e
    simp only [Option.some.injEq, Prod.mk.injEq] at e
    obtain ⟨rfl, rfl, rfl⟩ := e
    exact ⟨E, .refl hF hM, ha x hx⟩
  unfold pureCell at h
  split at h
  · rename_i id off len
    split at h
    · rename_i sz xs hg
      split at h
      · rename_i hlen
        simp only [Option.some.injEq, Prod.mk.injEq] at h
        obtain ⟨rfl, rfl, rfl⟩ := h
        obtain ⟨E', h1, h2, h3, h4, h5, h6, h7⟩ := freeze_block hF hM hg
        exact ⟨E', ⟨h1, h2, h3, h4, h5, h6⟩, frz_rep h6 (by rw [get_cons, if_pos rfl]) (hx.mono h4) hlen⟩
      · exact absurd h (by simp)
    · rename_i sz xs hg
      split at h
      · rename_i hlen
        simp only [Option.some.injEq, Prod.mk.injEq] at h
        obtain ⟨rfl, rfl, rfl⟩ := h
        exact ⟨E, .refl hF hM, frz_rep hM hg hx hlen⟩
      · exact absurd h (by simp)
    · exact absurd h (by simp)
  · exact pu _ (fun x hx => by cases hx with | pure h => exact h) rfl h
  · exact pu _ (fun x hx => by cases hx with | pure h => exact h) rfl h
  · exact pu _ (fun x hx => by cases hx with | pure h => exact h) rfl h
  · exact absurd h (by simp)

theorem pureCells_sound {w0 : World} {okb : Nat → Prop} : ∀ {cs cs' : List AV} {E : Env} {mem d : List (Nat × Arr)} {rd : List Nat} {cv : List Value}, Frm E w0 okb → MemRel E w0.heap.size mem → Ones E cs cv →
    pureCells mem cs = some (cs', d, rd) → ∃ E', Frozen E w0 okb (d ++ mem) E' ∧ OnesP E'.w E'.ok cs' cv
  | [], cs', E, mem, d, rd, cv, hF, hM, ho, h => by
    simp only [pureCells, Option.some.injEq, Prod.mk.injEq] at h
    obtain ⟨rfl, rfl, rfl⟩ := h
    exact ⟨E, .refl hF hM, ho.1.1, by simp, ho.2⟩
  | c :: r, cs', E, mem, d, rd, cv, hF, hM, ho, h => by
    cases cv with
    | nil => have := ho.1.1; simp at this
    | cons x cv =>
      unfold pureCells at h
      split at h
      · rename_i c' d1 rd1 hc
        split at h
        · rename_i r' d2 rd2 hr
          simp only [Option.some.injEq, Prod.mk.injEq] at h
          obtain ⟨rfl, rfl, rfl⟩ := h
          obtain ⟨E1, f1, p1⟩ := pureCell_sound hF hM (ho.1.2 0 c x rfl rfl) hc
          obtain ⟨E2, f2, p2⟩ := pureCells_sound f1.frm f1.mem ((ho.drop 1).mono f1.le) hr
          refine ⟨E2, by rw [List.append_assoc]; exact f1.trans f2, by simpa using p2.1, fun j c v hj hv => ?_, ho.2⟩
          cases j with
          | zero => simp at hj hv; subst hj hv; exact p1.mono f2.le.ok f2.le.blk
          | succ j => exact p2.2.1 j c v (by simpa using hj) (by simpa using hv)
        · exact absurd h (by simp)
      · exact absurd h (by simp)
end Go.Ab
