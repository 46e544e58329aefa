/- The abstract interpreter: calls, sound. -/
import Derived.Test.YtmdeiagmlabfmaaDoorAb19
set_option linter.unusedVariables false
set_option linter.unusedSimpArgs false
set_option linter.unusedSectionVars false

section
namespace Go.Ab
open Go.RowKit (Below)

theorem rep_pure {E : Env} {a : AV} {v : Value} (h : owns a = false) (hr : Rep E a v) : RepP E.w E.ok a v := by
  cases hr with
  | pure h => exact h
  | _ => simp [owns] at h

/-- Cells of a row, read where all that is there may be read. -/
theorem row_repP {E : Env} {base : Nat} {mem : List (Nat × Arr)} (hM : MemRel E base mem) (hlt : ∀ b, E.ok b → b < E.w.heap.size) {id off len sz : Nat} {xs : List (List AV)} (hg : get mem id = some (.row sz xs) ∨ get mem id = some (.frz sz xs))
    (hlen : off + len ≤ xs.length) {v : Value} (hv : Rep E (.own id off len) v) : RepP E.w (fun b => b < E.w.heap.size) (.sl sz ((xs.drop off).take len)) v := by
  have hll : ((xs.drop off).take len).length = len := by simp; omega
  rcases hv.own_inv.2 with ⟨hl, rfl, rfl, rfl⟩ | ⟨b, o, z, cap, hl, rfl, hc, c0, t0, f0, hb0, _⟩
  · simpa using RepP.slNil sz
  · have hzz := row_loc hM hg hl
    subst hzz
    obtain ⟨hz, hcell⟩ := row_cells (off := off) (len := len) hM hg hl
    have := RepP.sl (w := E.w) (ok := fun b => b < E.w.heap.size) z ((xs.drop off).take len) b (o + off * z) cap (fun i j => (E.w.cell? ⟨b, o + off * z + i * z + j, none⟩).getD undef) (lt_of_blk hb0) (by omega) hz
      (fun i cs j a hi hj => by obtain ⟨y, h1, h2, h3⟩ := hcell i cs j a hi hj; simp [h1])
      (fun i cs j a hi hj => by obtain ⟨y, h1, h2, h3⟩ := hcell i cs j a hi hj; simpa [h1] using h2)
      (fun i cs j a hi hj => by obtain ⟨y, h1, h2, h3⟩ := hcell i cs j a hi hj; simpa [h1] using h3.mono hlt (fun _ _ => rfl))
    rwa [hll] at this

theorem args_temp {E : Env} {base : Nat} {mem : List (Nat × Arr)} (hM : MemRel E base mem) (hlt : ∀ b, E.ok b → b < E.w.heap.size) {a a' : AV} (h : ArgTo mem a a') : ∀ {v : Value}, Rep E a v → RepP E.w (fun b => b < E.w.heap.size) a' v := by
  induction h with
  | same h => exact fun hv => (rep_pure h hv).mono hlt (fun _ _ => rfl)
  | nil sz => intro v hv; obtain rfl := hv.nil_inv; exact .slNil sz
  | row hg hl => exact fun hv => row_repP hM hlt (.inl hg) hl hv
  | frz hg hl => exact fun hv => row_repP hM hlt (.inr hg) hl hv
  | @empty id off sz sz' xs hg =>
    intro v hv
    rcases hv.own_inv.2 with ⟨hl, rfl, _, rfl⟩ | ⟨b, o, z, cap, hl, rfl, hc, c0, t0, f0, hb0, _⟩
    · exact .slNil sz'
    · exact .sl sz' [] b _ cap (fun _ _ => undef) (lt_of_blk hb0) (by simp) (by simp) (by simp) (by simp) (by simp)
  | @box id j cs cs' hg hl hv ih =>
    intro v hr
    obtain ⟨ha, b, o, z, hloc, rfl⟩ := hr.ptr_inv
    obtain ⟨b', c, t, hloc', hb, _, _, hsz, hc⟩ := (hM.arr id _ hg).2
    rw [hloc] at hloc'
    obtain ⟨rfl, rfl, rfl⟩ : b = b' ∧ o = 0 ∧ z = 0 := by simpa using hloc'
    have key : ∀ (q : Nat) (c' : AV), cs'[q]? = some c' → ∃ y, E.w.cell? ⟨b, 0 + 0 * 0 + j + q, none⟩ = some y ∧ y.oneCell' = true ∧ RepP E.w (fun b => b < E.w.heap.size) c' y := by
      intro q c' hq
      obtain ⟨c1, hc1⟩ : ∃ c1, (cs.drop j)[q]? = some c1 := ⟨_, List.getElem?_eq_getElem (by rw [← hl]; exact (List.getElem?_eq_some_iff.1 hq).1)⟩
      have hc2 := hc1
      rw [List.getElem?_drop] at hc2
      obtain ⟨y, h1, h2, h3⟩ := hc (j + q) c1 hc2
      exact ⟨y, by rw [cell_at hb]; simpa using h1, h2, ih q c1 c' hc1 hq h3⟩
    exact .ref cs' b _ (fun q => (E.w.cell? ⟨b, 0 + 0 * 0 + j + q, none⟩).getD undef) (lt_of_blk hb)
      (fun q c' hq => by obtain ⟨y, h1, _⟩ := key q c' hq; simp only [h1, Option.getD_some]) (fun q c' hq => by obtain ⟨y, h1, h2, _⟩ := key q c' hq; simpa only [h1, Option.getD_some] using h2) (fun q c' hq => by obtain ⟨y, h1, _, h3⟩ := key q c' hq; simpa only [h1, Option.getD_some] using h3)
  | @fn f x y x' y' hx hy h1 h2 ih1 ih2 =>
    intro v hr
    obtain ⟨fv, cv, rfl, r1, r2⟩ := hr.fn_inv
    refine .fn f x' y' fv cv (by rw [r1.1, hx]) (by rw [r2.1, hy]) (fun j c u hj hu => ?_) (fun j c u hj hu => ?_)
    · obtain ⟨c1, hc1⟩ : ∃ c1, x[j]? = some c1 := ⟨_, List.getElem?_eq_getElem (by rw [← hx]; exact (List.getElem?_eq_some_iff.1 hj).1)⟩
      exact ih1 j c1 c hc1 hj (r1.2 j c1 u hc1 hu)
    · obtain ⟨c1, hc1⟩ : ∃ c1, y[j]? = some c1 := ⟨_, List.getElem?_eq_getElem (by rw [← hy]; exact (List.getElem?_eq_some_iff.1 hj).1)⟩
      exact ih2 j c1 c hc1 hj (r2.2 j c1 u hc1 hu)
  | @agg x x' hx h1 ih =>
    intro v hr
    obtain ⟨cv, rfl, g1, r1⟩ := hr.agg_inv
    refine .agg x' cv (by rw [r1.1, hx]) g1 (fun j c u hj hu => ?_)
    obtain ⟨c1, hc1⟩ : ∃ c1, x[j]? = some c1 := ⟨_, List.getElem?_eq_getElem (by rw [← hx]; exact (List.getElem?_eq_some_iff.1 hj).1)⟩
    exact ih j c1 c hc1 hj (r1.2 j c1 u hc1 hu)

/-- An argument whose rows are frozen. -/
def FrzCell (mem mem' : List (Nat × Arr)) (a : AV) : Prop :=
  (∀ id off len, a = .own id off len → ∃ sz xs, (get mem id = some (.row sz xs) ∨ get mem id = some (.frz sz xs)) ∧ get mem' id = some (.frz sz xs)) ∧ (owns a = true → ∃ id off len, a = .own id off len)
theorem frzC_sound {w0 : World} {okb : Nat → Prop} {E : Env} {mem : List (Nat × Arr)} (hF : Frm E w0 okb) (hM : MemRel E w0.heap.size mem) : ∀ {as : List AV} {z : List (Nat × Arr)}, frzC mem as = some z →
    ∃ E1, Frozen E w0 okb (z ++ mem) E1 ∧ (∀ id arr, get (z ++ mem) id = some arr → get mem id = some arr ∨ ∃ sz xs, get mem id = some (.row sz xs) ∧ arr = .frz sz xs) ∧
      ∀ a, a ∈ as → FrzCell mem (z ++ mem) a
  | [], z, h => by
    obtain rfl := Option.some.inj h
    exact ⟨E, .refl hF hM, fun id arr h => .inl h, by simp⟩
  | a :: r, z, h => by
    have other : (∀ id off len, a ≠ .own id off len) → frzC mem r = some z → owns a = false →
        ∃ E1, Frozen E w0 okb (z ++ mem) E1 ∧ (∀ id arr, get (z ++ mem) id = some arr → get mem id = some arr ∨ ∃ sz xs, get mem id = some (.row sz xs) ∧ arr = .frz sz xs) ∧
          ∀ a', a' ∈ a :: r → FrzCell mem (z ++ mem) a' := by
      intro hne hr ho
      obtain ⟨E1, f1, q1, q2⟩ := frzC_sound hF hM hr
      refine ⟨E1, f1, q1, fun a' ha' => ?_⟩
      rcases List.mem_cons.1 ha' with rfl | ha'
      · exact ⟨fun id off len e => absurd e (hne id off len), fun h => by rw [ho] at h; cases h⟩
      · exact q2 a' ha'
    cases a with
    | own id off len =>
      unfold frzC at h
      split at h
      · rename_i sz xs z' hg hr
        obtain rfl := Option.some.inj h
        obtain ⟨E1, f1, q1, q2⟩ := frzC_sound hF hM hr
        have hk : ∃ E2, Frozen E w0 okb ((id, Arr.frz sz xs) :: (z' ++ mem)) E2 := by
          cases hz : get (z' ++ mem) id with
          | none =>
            exfalso
            have : ∀ (z : List (Nat × Arr)) (arr : Arr), get mem id = some arr → get (z ++ mem) id ≠ none := by
              intro z
              induction z with
              | nil => intro arr h e; rw [List.nil_append, h] at e; cases e
              | cons p z ih =>
                intro arr h e
                rw [List.cons_append, get_cons] at e
                split at e
                · cases e
                · exact ih arr h e
            exact this z' _ hg hz
          | some arr =>
            rcases q1 id arr hz with e | ⟨sz', xs', e, rfl⟩
            · rw [hg] at e
              obtain rfl := Option.some.inj e
              obtain ⟨E2, h1, h2, h3, h4, h5, h6, _⟩ := freeze_block f1.frm f1.mem hz
              exact ⟨E2, f1.trans ⟨h1, h2, h3, h4, h5, h6⟩⟩
            · rw [hg] at e
              obtain ⟨rfl, rfl⟩ : sz = sz' ∧ xs = xs' := by simpa using e
              exact ⟨E1, f1.w, f1.al, f1.loc, f1.le, f1.frm, f1.mem.cons (f1.mem.arr id _ hz).1 (f1.mem.arr id _ hz).2 (fun h => by cases h)⟩
        obtain ⟨E2, f2⟩ := hk
        have hget : ∀ i arr, get ((id, Arr.frz sz xs) :: (z' ++ mem)) i = some arr → get mem i = some arr ∨ ∃ sz xs, get mem i = some (.row sz xs) ∧ arr = .frz sz xs := by
          intro i arr hi
          rw [get_cons] at hi
          split at hi
          · rename_i e; subst e; exact .inr ⟨sz, xs, hg, (Option.some.inj hi).symm⟩
          · exact q1 i arr hi
        refine ⟨E2, f2, hget, fun a' ha' => ?_⟩
        rcases List.mem_cons.1 ha' with rfl | ha'
        · exact ⟨fun i o l e => by
            obtain ⟨rfl, rfl, rfl⟩ : id = i ∧ off = o ∧ len = l := by simpa using e
            exact ⟨sz, xs, .inl hg, by rw [List.cons_append, get_cons, if_pos rfl]⟩, fun _ => ⟨id, off, len, rfl⟩⟩
        · refine ⟨fun i o l e => ?_, (q2 a' ha').2⟩
          obtain ⟨sz', xs', h1, h2⟩ := (q2 a' ha').1 i o l e
          by_cases hi : id = i
          · subst hi
            rw [hg] at h1
            obtain ⟨rfl, rfl⟩ : sz = sz' ∧ xs = xs' := by simpa using h1
            exact ⟨sz, xs, .inl hg, by rw [List.cons_append, get_cons, if_pos rfl]⟩
          · exact ⟨sz', xs', h1, by rw [List.cons_append, get_cons, if_neg hi]; exact h2⟩
      · rename_i sz xs z' hg hr
        obtain rfl := Option.some.inj h
        obtain ⟨E1, f1, q1, q2⟩ := frzC_sound hF hM hr
        refine ⟨E1, f1, q1, fun a' ha' => ?_⟩
        rcases List.mem_cons.1 ha' with rfl | ha'
        · refine ⟨fun i o l e => ?_, fun _ => ⟨id, off, len, rfl⟩⟩
          obtain ⟨rfl, rfl, rfl⟩ : id = i ∧ off = o ∧ len = l := by simpa using e
          refine ⟨sz, xs, .inr hg, ?_⟩
          have : ∀ (z : List (Nat × Arr)) (arr : Arr), get mem id = some arr → get (z ++ mem) id ≠ none := by
            intro z
            induction z with
            | nil => intro arr h e; rw [List.nil_append, h] at e; cases e
            | cons p z ih =>
              intro arr h e
              rw [List.cons_append, get_cons] at e
              split at e
              · cases e
              · exact ih arr h e
          cases hz : get (z' ++ mem) id with
          | none => exact absurd hz (this z' _ hg)
          | some arr =>
            rcases q1 id arr hz with e | ⟨_, _, e, _⟩
            · rw [hg] at e; exact e.symm
            · rw [hg] at e; cases e
        · exact q2 a' ha'
      · exact absurd h (by simp)
    | agg _ => simp only [frzC, owns, if_true] at h; exact absurd h (by simp)
    | ptr _ _ _ => simp only [frzC, owns, if_true] at h; exact absurd h (by simp)
    | fn _ _ _ => simp only [frzC, owns, if_true] at h; exact absurd h (by simp)
    | tup _ => simp only [frzC, owns, if_true] at h; exact absurd h (by simp)
    | _ => exact other (by simp) (by simpa [frzC, owns] using h) rfl

theorem flatA_of {a : AV} : ∀ {as : List AV}, a ∈ as → (∃ cs, a = .agg cs ∧ ∀ c, c ∈ cs → c ∈ flatA as) ∨ a ∈ flatA as
  | [], h => by cases h
  | x :: r, h => by
    rcases List.mem_cons.1 h with rfl | h
    · cases a <;> first | exact .inr List.mem_cons_self | exact .inl ⟨_, rfl, fun c hc => List.mem_append_left _ hc⟩
    · rcases flatA_of h with ⟨cs, e, hc⟩ | hm
      · refine .inl ⟨cs, e, fun c hq => ?_⟩
        have hq := hc c hq
        cases x <;> first | exact List.mem_cons_of_mem _ hq | exact List.mem_append_right _ hq
      · refine .inr ?_
        cases x <;> first | exact List.mem_cons_of_mem _ hm | exact List.mem_append_right _ hm

theorem frzOf_sound {w0 : World} {okb : Nat → Prop} {E : Env} {mem : List (Nat × Arr)} (hF : Frm E w0 okb) (hM : MemRel E w0.heap.size mem) {as : List AV} {z : List (Nat × Arr)} (h : frzOf mem as = some z) :
    ∃ E1, Frozen E w0 okb (z ++ mem) E1 ∧ (∀ id arr, get (z ++ mem) id = some arr → get mem id = some arr ∨ ∃ sz xs, get mem id = some (.row sz xs) ∧ arr = .frz sz xs) ∧
      ∀ a, a ∈ as → FrzCell mem (z ++ mem) a ∨ ∃ cs, a = .agg cs ∧ ∀ c, c ∈ cs → FrzCell mem (z ++ mem) c := by
  obtain ⟨E1, h1, h2, h3⟩ := frzC_sound hF hM h
  refine ⟨E1, h1, h2, fun a ha => ?_⟩
  rcases flatA_of ha with ⟨cs, e, hc⟩ | hm
  · exact .inr ⟨cs, e, fun c h => h3 c (hc c h)⟩
  · exact .inl (h3 a hm)
end Go.Ab
end

section
namespace Go.Ab
open Go.RowKit (Below)

/-- What a call yields. -/
def CallYields0 (R : CallRel) (s : AS) (g : FuncId) (as : List AV) (r : Res) : Prop :=
  ∃ as' v, ArgsTo s.mem as as' ∧ R g as' v ∧
    ((noref v = true ∧ r = ⟨v, [], s.nx, if as.any owns then s.mem.map (·.1) else []⟩) ∨
      ∃ z, frzOf s.mem as = some z ∧ noref v = false ∧ r = ⟨(imp s.nx v).1, (imp s.nx v).2.1 ++ z, (imp s.nx v).2.2, if as.any owns then s.mem.map (·.1) else []⟩)

def MutYields (R : CallRel) (s : AS) (g : FuncId) (as : List AV) (r : Res) : Prop :=
  ∃ id off len sz xs ys, as = [.own id off len] ∧ get s.mem id = some (.row sz xs) ∧ off + len ≤ xs.length ∧ (0 < len ∧ len ≤ 9223372036854775807) ∧ R g [.fr sz ((xs.drop off).take len)] (.fr sz ys) ∧ r = mutRes s id off len sz xs ys
def CallYields (R : CallRel) (s : AS) (g : FuncId) (as : List AV) (r : Res) : Prop := CallYields0 R s g as r ∨ MutYields R s g as r

theorem acall_yields {R : CallRel} {s : AS} {g : FuncId} {as : List AV} {K : Res → Prop} (h : acall R s g as K) : ∃ r, CallYields R s g as r ∧ K r := by
  rcases h with ⟨as', v, h1, h2, h3⟩ | ⟨id, off, len, sz, xs, ys, h1, h2, h3, h4, h5, h6⟩
  · split at h3
    · rename_i hn; exact ⟨_, .inl ⟨as', v, h1, h2, .inl ⟨hn, rfl⟩⟩, h3⟩
    · rename_i z hn hz; exact ⟨_, .inl ⟨as', v, h1, h2, .inr ⟨z, hz, hn, rfl⟩⟩, h3⟩
    · exact h3.elim
  · exact ⟨_, .inr ⟨id, off, len, sz, xs, ys, h1, h2, h3, h4, h5, rfl⟩, h6⟩

theorem argsTo_get {mem : List (Nat × Arr)} : ∀ {as as' : List AV}, ArgsTo mem as as' → as'.length = as.length ∧ ∀ (j : Nat) (a a' : AV), as[j]? = some a → as'[j]? = some a' → ArgTo mem a a'
  | [], [], _ => ⟨rfl, by simp⟩
  | a :: r, a' :: r', h => by
    obtain ⟨h1, h2⟩ := argsTo_get h.2
    refine ⟨by simp [h1], fun j x y hx hy => ?_⟩
    cases j with
    | zero => simp at hx hy; subst hx hy; exact h.1
    | succ j => exact h2 j x y (by simpa using hx) (by simpa using hy)
  | [], _ :: _, h => h.elim
  | _ :: _, [], h => h.elim

theorem args_permC {E E1 : Env} {w0 : World} {okb : Nat → Prop} {mem z : List (Nat × Arr)} (f1 : Frozen E w0 okb (z ++ mem) E1) {a a' : AV} (hto : ArgTo mem a a') {v : Value} (hv : Rep E a v)
    (hf : FrzCell mem (z ++ mem) a) :
    RepP E1.w E1.ok a' v := by
  have hv1 := hv.mono f1.le
  obtain ⟨h1, h2⟩ := hf
  cases hto with
  | same h => exact rep_pure h hv1
  | nil sz => obtain rfl := hv.nil_inv; exact .slNil sz
  | @row id off len sz xs hg hl =>
    obtain ⟨sz', xs', q1, q2⟩ := h1 id off len rfl
    rw [hg] at q1
    obtain ⟨rfl, rfl⟩ : sz = sz' ∧ xs = xs' := by simpa using q1
    exact frz_rep f1.mem q2 hv1 hl
  | @frz id off len sz xs hg hl =>
    obtain ⟨sz', xs', q1, q2⟩ := h1 id off len rfl
    rw [hg] at q1
    obtain ⟨rfl, rfl⟩ : sz = sz' ∧ xs = xs' := by simpa using q1
    exact frz_rep f1.mem q2 hv1 hl
  | @empty id off sz sz' xs hg =>
    obtain ⟨sz2, xs2, q1, q2⟩ := h1 id off 0 rfl
    rcases hv1.own_inv.2 with ⟨hl, rfl, _, rfl⟩ | ⟨b, o, zz, cap, hl, rfl, hc, c0, t0, f0, hb0, _⟩
    · exact .slNil sz'
    · have hr := (f1.mem.arr id _ q2).2
      simp only [ArrRel, hl] at hr
      obtain ⟨_, _, _, _, hok, _⟩ := hr
      exact .sl sz' [] b _ cap (fun _ _ => undef) hok (by simp) (by simp) (by simp) (by simp) (by simp)
  | box hg hl hv => obtain ⟨_, _, _, e⟩ := h2 rfl; cases e
  | fn hx hy h1 h2' => obtain ⟨_, _, _, e⟩ := h2 rfl; cases e
  | agg hx hc => obtain ⟨_, _, _, e⟩ := h2 rfl; cases e

theorem args_perm {E E1 : Env} {w0 : World} {okb : Nat → Prop} {mem z : List (Nat × Arr)} (f1 : Frozen E w0 okb (z ++ mem) E1) {a a' : AV} (hto : ArgTo mem a a') {v : Value} (hv : Rep E a v)
    (hf : FrzCell mem (z ++ mem) a ∨ ∃ cs, a = .agg cs ∧ ∀ c, c ∈ cs → FrzCell mem (z ++ mem) c) : RepP E1.w E1.ok a' v := by
  rcases hf with hf | ⟨cs, rfl, hf⟩
  · exact args_permC f1 hto hv hf
  · cases hto with
    | same h => cases h
    | @agg _ x' hx hc =>
      obtain ⟨cv, rfl, g1, r1⟩ := hv.agg_inv
      refine .agg x' cv (by rw [r1.1, hx]) g1 (fun j c u hj hu => ?_)
      obtain ⟨c1, hc1⟩ : ∃ c1, cs[j]? = some c1 := ⟨_, List.getElem?_eq_getElem (by rw [← hx]; exact (List.getElem?_eq_some_iff.1 hj).1)⟩
      exact args_permC f1 (hc j c1 c hc1 hj) (r1.2 j c1 u hc1 hu) (hf c1 (List.mem_of_getElem? hc1))

theorem rrs_sc {w : World} {ok : Nat → Prop} {h : Nat} : ∀ {cs : List AV} {cv : List Value} {bs : List Nat}, cs.all isSc = true → RRs w ok h cs cv bs → ∀ (E : Env), Reps E cs cv := by
  intro cs
  induction cs with
  | nil => intro cv bs _ hr E; cases hr; exact ⟨rfl, by simp⟩
  | cons a r ih =>
    intro cv bs hall hr E
    simp only [List.all_cons, Bool.and_eq_true] at hall
    cases hr with
    | cons ha hr =>
      have h2 := ih hall.2 hr E
      refine ⟨by simp [h2.1], fun j c u hc hu => ?_⟩
      cases j with
      | zero =>
        simp at hc hu
        subst hc hu
        cases ha with
        | pure hp => cases hp <;> first | (simp [isSc] at hall; done) | exact .pure (.sc _)
        | frNil _ => simp [isSc] at hall
        | fr => simp [isSc] at hall
      | succ j => exact h2.2 j c u (by simpa using hc) (by simpa using hu)
    | agg _ _ _ => simp [isSc] at hall

theorem repP_sc {w : World} {ok : Nat → Prop} {a : AV} {v : Value} (h : RepP w ok a v) (hn : noref1 a = true) (E : Env) : Rep E a v := by
  cases h with
  | sc _ => exact .pure (.sc _)
  | agg cs cv hl h1 hv =>
    simp only [noref1] at hn
    refine .agg cs cv hl h1 (fun j c u hj hu => ?_)
    have hs := (List.all_eq_true.1 hn) c (List.mem_of_getElem? hj)
    have := hv j c u hj hu
    cases this <;> first | (simp [isSc] at hs; done) | exact .pure (.sc _)
  | _ => simp [noref1] at hn

theorem rrs_noref {w : World} {ok : Nat → Prop} {h : Nat} : ∀ {cs : List AV} {cv : List Value} {bs : List Nat}, cs.all noref1 = true → RRs w ok h cs cv bs → ∀ (E : Env), Reps E cs cv := by
  intro cs
  induction cs with
  | nil => intro cv bs _ hr E; cases hr; exact ⟨rfl, by simp⟩
  | cons a r ih =>
    intro cv bs hall hr E
    simp only [List.all_cons, Bool.and_eq_true] at hall
    have tail : ∀ (v : Value) (vs : List Value), Rep E a v → Reps E r vs → Reps E (a :: r) (v :: vs) := by
      intro v vs h1 h2
      refine ⟨by simp [h2.1], fun j c u hc hu => ?_⟩
      cases j with
      | zero => simp at hc hu; subst hc hu; exact h1
      | succ j => exact h2.2 j c u (by simpa using hc) (by simpa using hu)
    cases hr with
    | cons ha hr =>
      refine tail _ _ ?_ (ih hall.2 hr E)
      cases ha with
      | pure hp => exact repP_sc hp hall.1 E
      | frNil _ => simp [noref1] at hall
      | fr => simp [noref1] at hall
    | @agg cs cv _ vs x y g1 ha hr =>
      refine tail _ _ ?_ (ih hall.2 hr E)
      have hs : cs.all isSc = true := by simpa only [noref1] using hall.1
      have := rrs_sc hs ha E
      exact .agg cs cv this.1 g1 this.2

theorem noref_res {w w' : World} {ok : Nat → Prop} {r : AV} {v : Value} (h : ResOk w w' ok r v) (hn : noref r = true) (E : Env) : Rep E r v := by
  obtain ⟨bs, rs, vs, _, hr, rfl, rfl⟩ := h
  have key : rs.all noref1 = true ∨ (∃ rs', rs = [.tup rs'] ∧ rs'.all noref1 = true) := by
    match rs, hn with
    | [a], hn =>
      cases a with
      | sc v => exact .inl rfl
      | agg cs => exact .inl (by simpa [noref, noref1] using hn)
      | tup l => exact .inr ⟨l, rfl, hn⟩
      | _ => simp [noref] at hn
    | [], hn => exact .inl rfl
    | _ :: _ :: _, hn => exact .inl hn
  rcases key with key | ⟨rs', rfl, hk⟩
  · have hR := rrs_noref key hr E
    match rs, vs, hR with
    | [a], [u], hR => exact hR.2 0 a u rfl rfl
    | [], [], hR => exact .tup [] [] rfl (by simp)
    | a :: b :: l, u :: x :: l', hR => exact .tup _ _ hR.1 hR.2
    | [], _ :: _, hR => have := hR.1; simp at this
    | [_], [], hR => have := hR.1; simp at this
    | [_], _ :: _ :: _, hR => have := hR.1; simp at this
    | _ :: _ :: _, [], hR => have := hR.1; simp at this
    | _ :: _ :: _, [_], hR => have := hR.1; simp at this
  · cases hr with
    | cons ha hr =>
      cases hr
      cases ha with
      | pure hp =>
        cases hp with
        | tup _ cv hl hv =>
          refine .tup rs' cv hl (fun j c u hj hu => ?_)
          exact repP_sc (hv j c u hj hu) ((List.all_eq_true.1 hk) c (List.mem_of_getElem? hj)) E
end Go.Ab
end
