/- The abstract interpreter: an operation, sound. -/
import Derived.Test.YtchibfkcphbmjaaAb21
set_option linter.unusedVariables false
set_option linter.unusedSimpArgs false
set_option linter.unusedSectionVars false

section
namespace Go.Ab
open Go.RowKit (Below)

theorem rrs_pure {w : World} {ok : Nat → Prop} {h : Nat} : ∀ {cs : List AV} {cv : List Value}, cv.length = cs.length → (∀ (j : Nat) (c : AV) (v : Value), cs[j]? = some c → cv[j]? = some v → RepP w ok c v) → RRs w ok h cs cv []
  | [], cv, hl, _ => by
    obtain rfl : cv = [] := by simpa using hl
    exact .nil
  | c :: cs, [], hl, _ => by simp at hl
  | c :: cs, u :: cv, hl, hv => .cons (x := []) (y := []) (.pure (hv 0 c u rfl rfl)) (rrs_pure (by simpa using hl) (fun j c v h1 h2 => hv (j + 1) c v (by simpa using h1) (by simpa using h2)))

theorem rr_ge {w : World} {ok : Nat → Prop} {h : Nat} {a : AV} {v : Value} {bs : List Nat} (hr : RR w ok h a v bs) : ∀ b, b ∈ bs → h ≤ b := by
  cases hr with
  | pure _ => simp
  | frNil _ => simp
  | fr _ _ b _ _ _ _ _ hh => intro b' hb'; simp at hb'; omega
theorem rrs_ge {w : World} {ok : Nat → Prop} {h : Nat} {as : List AV} {vs : List Value} {bs : List Nat} (hr : RRs w ok h as vs bs) : ∀ b, b ∈ bs → h ≤ b := by
  induction hr with
  | nil => simp
  | cons ha _ ih => exact fun b hb => (List.mem_append.1 hb).elim (rr_ge ha b) (ih b)
  | agg _ _ _ ih1 ih2 => exact fun b hb => (List.mem_append.1 hb).elim (ih1 b) (ih2 b)

theorem imp_sound {w0 : World} {okb : Nat → Prop} {h : Nat} (hbase : w0.heap.size ≤ h) {rs : List AV} {vs : List Value} {bs : List Nat} {E : Env} {mem : List (Nat × Arr)} {nx : Nat} {r : AV} {v : Value} (hF : Frm E w0 okb) (hM : MemRel E w0.heap.size mem)
    (hr : r = (match rs with | [a] => a | _ => .tup rs)) (hv : v = (match vs with | [a] => a | _ => .tuple vs.toArray))
    (hid : ∀ id, nx ≤ id → id < (imp nx r).2.2 → ¬ E.al id) (hR : RRs E.w E.ok h rs vs bs) (hnd : bs.Nodup) (hno : ∀ b, b ∈ bs → ¬ E.ok b)
    (hfar : ∀ b, b ∈ bs → ∀ i arr b' o z, get mem i = some arr → arr.isMut = true → E.loc i = some (b', o, z) → b' ≠ b) :
    ∃ E', Imported E w0 okb mem nx (imp nx r).2.1 (imp nx r).2.2 bs E' ∧ Rep E' (imp nx r).1 v := by
  have tuple : r = .tup rs → v = .tuple vs.toArray → ∃ E', Imported E w0 okb mem nx (imp nx r).2.1 (imp nx r).2.2 bs E' ∧ Rep E' (imp nx r).1 v := by
    rintro rfl rfl
    obtain ⟨E1, i1, r1⟩ := imps_sound hbase hF hM hid hR hnd hno hfar
    exact ⟨E1, i1, .tup _ vs r1.1 r1.2⟩
  match rs, vs, hR with
  | [a], [u], hR =>
    simp only at hr hv
    subst hr hv
    by_cases ht : ∃ l, r = .tup l
    · obtain ⟨l, rfl⟩ := ht
      cases hR with
      | cons ha hr =>
        cases hr
        cases ha with
        | pure hp =>
          cases hp with
          | tup _ cv hl hv =>
            obtain ⟨E1, i1, r1⟩ := imps_sound hbase hF hM hid (rrs_pure (h := h) hl hv) hnd hno hfar
            exact ⟨E1, i1, .tup _ cv r1.1 r1.2⟩
    · have e : imp nx r = imp1 nx r := by cases r <;> first | rfl | exact absurd ⟨_, rfl⟩ ht
      rw [e] at hid ⊢
      obtain ⟨E1, i1, r1⟩ := imps_sound hbase hF hM (nx := nx) (by simpa [imps] using hid) hR hnd hno hfar
      simp only [imps, List.nil_append] at i1 r1
      exact ⟨E1, i1, r1.2 0 _ v rfl rfl⟩
  | [], [], hR => exact tuple hr hv
  | a :: b :: l, u :: x :: l', hR => exact tuple hr hv
  | [_], _ :: _ :: _, hR =>
    cases hR with
    | cons _ h => cases h
    | agg _ _ h => cases h
  | _ :: _ :: _, [_], hR =>
    cases hR with
    | cons _ h => cases h
    | agg _ _ h => cases h

theorem call_sound {P : Program} {R : CallRel} (hR : RSound P R) {E : Env} {w0 : World} {okb : Nat → Prop} {s : AS} {g : FuncId} {as : List AV} {vs : List Value} {r : Res} (hF : Frm E w0 okb) (hM : MemRel E w0.heap.size s.mem)
    (hy : CallYields R s g as r) (hvs : Reps E as vs) (hid : ∀ id, s.nx ≤ id → id < r.nx → ¬ E.al id) :
    Enters P g ∧ Calls P g vs.toArray E.w fun e w' => ∃ v E', e = .returned v ∧ E'.w = w' ∧ Stepped E w0 okb s.mem s.nx r v E' := by
  obtain ⟨as', v, hto, hRv, hmode⟩ := hy
  obtain ⟨hen, hc⟩ := hR g as' v hRv
  obtain ⟨hlen, hg⟩ := argsTo_get hto
  have argOf : ∀ (j : Nat) (a' : AV) (u : Value), as'[j]? = some a' → vs[j]? = some u → ∃ a, as[j]? = some a ∧ ArgTo s.mem a a' ∧ Rep E a u := by
    intro j a' u hj hu
    obtain ⟨a, ha⟩ : ∃ a, as[j]? = some a := ⟨_, List.getElem?_eq_getElem (by rw [← hlen]; exact (List.getElem?_eq_some_iff.1 hj).1)⟩
    exact ⟨a, ha, hg j a a' ha hj, hvs.2 j a u ha hu⟩
  refine ⟨hen, ?_⟩
  rcases hmode with ⟨hn, rfl⟩ | ⟨z, hz, hn, rfl⟩
  · refine (hc E.w (fun b => b < E.w.heap.size) vs (fun b h => h) ⟨by rw [hvs.1, hlen], fun j a' u hj hu => ?_⟩).mono ?_
    · obtain ⟨a, _, h2, h3⟩ := argOf j a' u hj hu
      exact args_temp hM hF.lt h2 h3
    · rintro e w' ⟨x, rfl, hB, hres⟩
      have hle := below_le hF.lt hB
      refine ⟨x, { E with w := w' }, rfl, rfl, hle, fun id => ⟨.inl, fun h => h.elim (fun h => h) (fun h => by simp only at h; omega)⟩, Nat.le_refl _, ⟨hF.below.trans (hB.mono hF.below.size), hF.okb, fun b h => Nat.lt_of_lt_of_le (hF.lt b h) hB.size⟩, ?_, noref_res hres hn _⟩
      refine hM.mono hle fun i arr hg hm b o z hl => ?_
      obtain ⟨h1, h2, h3⟩ := mut_fact hM hg hm hl
      exact ⟨hB.block b h2, h1⟩
  · obtain ⟨E1, f1, q1, q2⟩ := frzOf_sound hF hM hz
    have hw := f1.w
    rw [← hw]
    refine (hc E1.w E1.ok vs f1.frm.lt ⟨by rw [hvs.1, hlen], fun j a' u hj hu => ?_⟩).mono ?_
    · obtain ⟨a, h1, h2, h3⟩ := argOf j a' u hj hu
      obtain ⟨q3, q4⟩ := q2 a (List.mem_of_getElem? h1)
      exact args_perm f1 h2 h3 q3 q4
    · rintro e w' ⟨x, rfl, hB, bs, rs, ws, hnd, hRR, hr1, hv1⟩
      have hge := rrs_ge hRR
      obtain ⟨hle, hF2, hM2⟩ := after_env f1.frm f1.mem hB hge
      obtain ⟨E3, i3, r3⟩ := imp_sound (h := E1.w.heap.size) (E := E1.after w' bs) (nx := s.nx) (okb := okb) f1.frm.below.size hF2 hM2 hr1 hv1 (fun id h1 h2 h3 => hid id h1 h2 (by rw [← f1.al]; exact h3)) hRR hnd (fun b hb h => h.2 hb)
        (fun b hb i arr b' o z' hg hm hl e => by
          have := (mut_fact f1.mem hg hm hl).2.1
          have := hge b hb
          omega)
      refine ⟨x, E3, rfl, i3.w, (f1.le.trans hle).trans i3.le, fun id => ?_, i3.nx, i3.frm, ?_, r3⟩
      · rw [i3.al id]
        show E1.al id ∨ _ ↔ _
        rw [f1.al]
      · simp only [List.append_assoc]; exact i3.mm

/-- What an operation yields. -/
def AYields (P : Program) (R : CallRel) (o : Oper) (s : AS) (r : Res) : Prop :=
  match o.op with
  | .call ⟨.value f, args, ts⟩ => ∃ x, callee s ⟨.value f, args, ts⟩ = some x ∧ CallYields R s x.1 x.2 r
  | _ => ev P o s = some r

theorem aop_yields {P : Program} {R : CallRel} {o : Oper} {s : AS} {K : Res → Prop} (h : aop P R o s K) : ∃ r, AYields P R o s r ∧ K r := by
  obtain ⟨dst, op, type, pos, after, guard⟩ := o
  have other : optK (ev P ⟨dst, op, type, pos, after, guard⟩ s) K → ∃ r, ev P ⟨dst, op, type, pos, after, guard⟩ s = some r ∧ K r := by
    intro h
    unfold optK at h
    split at h
    · rename_i r hr; exact ⟨r, hr, h⟩
    · exact h.elim
  cases op with
  | call c =>
    obtain ⟨cl, args, ts⟩ := c
    cases cl with
    | value f =>
      unfold aop at h
      simp only [optK] at h
      split at h
      · rename_i x hx
        obtain ⟨r, h1, h2⟩ := acall_yields h
        exact ⟨r, ⟨x, hx, h1⟩, h2⟩
      · exact h.elim
    | _ => exact other h
  | _ => exact other h

theorem run_callFunc {P : Program} {g : FuncId} (h : Enters P g) (vs : Array Value) (w : World) : (callFunc g vs).run P w = .ok (.enter g vs) w := by
  obtain ⟨fn, c, h1, h2, h3⟩ := h
  simp [callFunc, Sem.run_bind, run_program, Result.andThen_ok, h1, h2, by simpa using h3]

theorem callee_sound {E : Env} {P : Program} {s : AS} {a : Act} (hT : TmOk E s a) {c : Call} {x : FuncId × List AV} (h : callee s c = some x) (dst : Option Tmp) (type : TypeId) (pos : String) (after : Array Edge) (guard : Option (Nat × Bool)) (w : World) :
    ∃ vs : List Value, Reps E x.2 vs ∧ (execOp a.eval ⟨dst, .call c, type, pos, after, guard⟩).run P w = (callFunc x.1 vs.toArray).run P w := by
  unfold callee at h
  split at h
  · rename_i f hf
    split at h
    · rename_i g first cap as hfn has
      obtain rfl := Option.some.inj h
      obtain ⟨fv, cv, he, r1, r2⟩ := (opr_sound hT hfn).fn_inv
      have r3 := oprs_sound hT has
      refine ⟨fv ++ c.args.toList.map a.eval ++ cv, ⟨by simp [r1.1, r2.1, r3.1], fun j q v hj hv => ?_⟩, ?_⟩
      · rw [List.append_assoc] at hj hv
        by_cases c1 : j < first.length
        · rw [List.getElem?_append_left c1] at hj
          rw [List.getElem?_append_left (by rw [r1.1]; exact c1)] at hv
          exact r1.2 j q v hj hv
        · rw [List.getElem?_append_right (by omega)] at hj
          rw [List.getElem?_append_right (by rw [r1.1]; omega), r1.1] at hv
          by_cases c2 : j - first.length < as.length
          · rw [List.getElem?_append_left c2] at hj
            rw [List.getElem?_append_left (by rw [r3.1]; exact c2)] at hv
            exact r3.2 _ q v hj hv
          · rw [List.getElem?_append_right (by omega)] at hj
            rw [List.getElem?_append_right (by rw [r3.1]; omega), r3.1] at hv
            exact r2.2 _ q v hj hv
      · simp only [execOp, resolve, hf, he, Deferred.ofValue, Sem.run_bind, Sem.run_pure, Result.andThen_ok, invoke]
        congr 2
        exact Array.ext' (by simp)
    · exact absurd h (by simp)
  · exact absurd h (by simp)

/-- An operation. -/
theorem op_sound {P : Program} {R : CallRel} (hR : RSound P R) {E : Env} {w0 : World} {okb : Nat → Prop} {s : AS} {o : Oper} {a : Act} {r : Res} (hF : Frm E w0 okb) (hM : MemRel E w0.heap.size s.mem) (hT : TmOk E s a)
    (h : AYields P R o s r) (hid : ∀ id, s.nx ≤ id → id < r.nx → ¬ E.al id) {K : Act → World → Prop} {Q : Exit → Act → World → Prop} (hK : ∀ x E', Stepped E w0 okb s.mem s.nx r x E' → K (a.put o.dst x) E'.w) : o.wp P a E.w K Q := by
  unfold AYields at h
  split at h
  · rename_i f args ts hop
    obtain ⟨x, hx, hy⟩ := h
    obtain ⟨dst, op, type, pos, after, guard⟩ := o
    obtain rfl : op = _ := hop
    obtain ⟨vs, hvs, hrun⟩ := callee_sound (P := P) hT hx dst type pos after guard E.w
    obtain ⟨hen, hc⟩ := call_sound hR hF hM hy hvs hid
    unfold Oper.wp
    rw [hrun, run_callFunc hen, Oper.upon_enter]
    refine hc.mono ?_
    rintro e w' ⟨v, E', rfl, rfl, hS⟩
    exact hK v E' hS
  · obtain ⟨x, E', hrun, hS⟩ := ev_sound hF hM hT h hid
    unfold Oper.wp
    rcases hrun with hrun | ⟨hrun, rfl⟩
    · rw [hrun, Oper.upon_value]; exact hK x E' hS
    · rw [hrun, Oper.upon_skip]; exact hK undef E' hS
end Go.Ab
end

section
namespace Go.Ab
open Go.RowKit (Below)

theorem get_append {α : Type} (x y : List (Nat × α)) (i : Nat) : get (x ++ y) i = match get x i with | some v => some v | none => get y i := by
  induction x with
  | nil => rfl
  | cons p x ih =>
    obtain ⟨u, v⟩ := p
    simp only [List.cons_append, get_cons]
    split
    · rfl
    · exact ih
theorem get_append_congr {α : Type} {x y y' : List (Nat × α)} {i : Nat} (h : get y' i = get y i) : get (x ++ y') i = get (x ++ y) i := by
  rw [get_append, get_append, h]

theorem oprs_foot {s s' : AS} : ∀ {l : List Operand} {vs : List AV}, (∀ x, x ∈ l → opr s' x = opr s x) → oprs s l = some vs → oprs s' l = some vs
  | [], _, _, h => h
  | x :: r, vs, hx, h => by
    unfold oprs at h ⊢
    rw [hx x List.mem_cons_self]
    split at h
    · rename_i v vs' h1 h2
      rw [h1, oprs_foot (fun y hy => hx y (List.mem_cons_of_mem _ hy)) h2]
      exact h
    · exact absurd h (by simp)
theorem oprs2_foot {s s' : AS} : ∀ {l : List (Nat × Operand)} {vs : List (Nat × AV)}, (∀ x, x ∈ l.map (·.2) → opr s' x = opr s x) → oprs2 s l = some vs → oprs2 s' l = some vs
  | [], _, _, h => h
  | (i, x) :: r, vs, hx, h => by
    unfold oprs2 at h ⊢
    rw [hx x (by simp)]
    split at h
    · rename_i v vs' h1 h2
      rw [h1, oprs2_foot (fun y hy => hx y (by simp only [List.map_cons, List.mem_cons]; exact .inr hy)) h2]
      exact h
    · exact absurd h (by simp)

theorem pureCell_foot {mem mem' : List (Nat × Arr)} {c : AV} {x : AV × List (Nat × Arr) × List Nat} (h : pureCell mem c = some x) (hm : ∀ id, id ∈ x.2.2 → get mem' id = get mem id) : pureCell mem' c = some x := by
  unfold pureCell at h ⊢
  split at h
  · rename_i id off len
    have key : get mem' id = get mem id := by
      split at h
      · split at h
        · obtain rfl := Option.some.inj h; exact hm id (by simp)
        · exact absurd h (by simp)
      · split at h
        · obtain rfl := Option.some.inj h; exact hm id (by simp)
        · exact absurd h (by simp)
      · exact absurd h (by simp)
    simp only [key]
    exact h
  all_goals exact h

theorem pureCells_foot : ∀ {cs : List AV} {mem mem' : List (Nat × Arr)} {x : List AV × List (Nat × Arr) × List Nat}, pureCells mem cs = some x → (∀ id, id ∈ x.2.2 → get mem' id = get mem id) → pureCells mem' cs = some x
  | [], _, _, _, h, _ => h
  | c :: r, mem, mem', x, h, hm => by
    unfold pureCells at h ⊢
    split at h
    · rename_i c' d rd h1
      split at h
      · rename_i r' d' rd' h2
        obtain rfl := Option.some.inj h
        rw [pureCell_foot h1 (fun id hi => hm id (by simp at hi ⊢; exact .inl hi))]
        simp only
        rw [pureCells_foot h2 (fun id hi => get_append_congr (hm id (by simp at hi ⊢; exact .inr hi)))]
      · exact absurd h (by simp)
    · exact absurd h (by simp)

theorem pureRows_foot : ∀ {cs : List (List AV)} {mem mem' : List (Nat × Arr)} {x : List (List AV) × List (Nat × Arr) × List Nat}, pureRows mem cs = some x → (∀ id, id ∈ x.2.2 → get mem' id = get mem id) → pureRows mem' cs = some x
  | [], _, _, _, h, _ => h
  | c :: r, mem, mem', x, h, hm => by
    unfold pureRows at h ⊢
    split at h
    · rename_i c' d rd h1
      split at h
      · rename_i r' d' rd' h2
        obtain rfl := Option.some.inj h
        rw [pureCells_foot h1 (fun id hi => hm id (by simp at hi ⊢; exact .inl hi))]
        simp only
        rw [pureRows_foot h2 (fun id hi => get_append_congr (hm id (by simp at hi ⊢; exact .inr hi)))]
      · exact absurd h (by simp)
    · exact absurd h (by simp)

theorem behind_foot {s s' : AS} {p : AV} {x : List AV × List Nat} (h : behind s p = some x) (hm : ∀ id, id ∈ x.2 → get s'.mem id = get s.mem id) : behind s' p = some x := by
  unfold behind at h ⊢
  split at h
  · exact h
  · rename_i id i j
    have key : get s'.mem id = get s.mem id := by
      split at h
      · split at h
        · obtain rfl := Option.some.inj h; exact hm id (by simp)
        · exact absurd h (by simp)
      · split at h
        · obtain rfl := Option.some.inj h; exact hm id (by simp)
        · exact absurd h (by simp)
      · split at h
        · obtain rfl := Option.some.inj h; exact hm id (by simp)
        · exact absurd h (by simp)
      · exact absurd h (by simp)
    simp only [key]
    exact h
  · exact absurd h (by simp)

theorem source_foot {s s' : AS} {n : Nat} {p : AV} {x : List (List AV) × List Nat} (h : source s n p = some x) (hm : ∀ id, id ∈ x.2 → get s'.mem id = get s.mem id) : source s' n p = some x := by
  unfold source at h ⊢
  split at h
  · exact h
  · exact h
  · rename_i id off len
    have key : get s'.mem id = get s.mem id := by
      split at h
      · split at h
        · obtain rfl := Option.some.inj h; exact hm id (by simp)
        · exact absurd h (by simp)
      · split at h
        · obtain rfl := Option.some.inj h; exact hm id (by simp)
        · exact absurd h (by simp)
      · exact absurd h (by simp)
    simp only [key]
    exact h
  · exact h
  · exact absurd h (by simp)

theorem loadE_foot {P : Program} {s s' : AS} {t : TypeId} {p : AV} {r : Res} (h : loadE P s t p = some r) (hn : s'.nx = s.nx) (hm : ∀ id, id ∈ r.rd → get s'.mem id = get s.mem id) : loadE P s' t p = some r := by
  unfold loadE at h ⊢
  split at h
  · rename_i a cs rd h1 h2
    split at h
    · rename_i v hv
      obtain rfl := Option.some.inj h
      rw [h1, behind_foot h2 (fun id hi => hm id hi)]
      simp only [hv, hn]
    · exact absurd h (by simp)
  · exact absurd h (by simp)

theorem storeE_foot {P : Program} {s s' : AS} {t : TypeId} {p v : AV} {r : Res} (h : storeE P s t p v = some r) (hn : s'.nx = s.nx) (hm : ∀ id, id ∈ r.rd → get s'.mem id = get s.mem id) : storeE P s' t p v = some r := by
  unfold storeE at h ⊢
  split at h
  · rename_i z n vs id i j h1 h2
    try rw [h1, h2]
    try simp only
    split at h
    · rename_i hl
      rw [if_pos hl]
      split at h
      · rename_i cs hg
        split at h
        · rename_i hi
          split at h
          · rename_i cs' hc
            obtain rfl := Option.some.inj h
            rw [hm id (by simp), hg]
            simp only [hi, if_true, hc, hn]
          · exact absurd h (by simp)
        · exact absurd h (by simp)
      · rename_i sz xs hg
        split at h
        · rename_i vs' d rd cs h3 h4
          split at h
          · rename_i hd
            split at h
            · rename_i cs' hc
              obtain rfl := Option.some.inj h
              rw [hm id (by simp), hg]
              simp only [pureCells_foot h3 (fun id hi => hm id (by simp at hi ⊢; exact .inr hi)), h4, hd, if_true, hc, hn]
            · exact absurd h (by simp)
          · exact absurd h (by simp)
        · exact absurd h (by simp)
      · exact absurd h (by simp)
    · exact absurd h (by simp)
  · exact absurd h (by simp)

theorem buildSliceE_foot {P : Program} {s s' : AS} {t : TypeId} {len : Nat} {ps : List (Nat × AV)} {r : Res} (h : buildSliceE P s t len ps = some r) (hn : s'.nx = s.nx) (hm : ∀ id, id ∈ r.rd → get s'.mem id = get s.mem id) : buildSliceE P s' t len ps = some r := by
  unfold buildSliceE at h ⊢
  split at h
  · rename_i e he
    try simp only [he]
    split at h
    · rename_i g n z h1 h2
      try simp only [h1, h2]
      split at h
      · rename_i hc
        rw [if_pos hc]
        split at h
        · rename_i xs hx
          try simp only [hx]
          split at h
          · rename_i xs' d rd hp
            obtain rfl := Option.some.inj h
            rw [pureRows_foot hp (fun id hi => hm id hi)]
            simp only [hn]
          · exact absurd h (by simp)
        · exact absurd h (by simp)
      · exact absurd h (by simp)
    · exact absurd h (by simp)
  · exact absurd h (by simp)

theorem sliceE_foot {P : Program} {s s' : AS} {t : TypeId} {x : AV} {lo hi : Option AV} {r : Res} (h : sliceE P s t x lo hi = some r) (hn : s'.nx = s.nx) (hm : ∀ id, id ∈ r.rd → get s'.mem id = get s.mem id) : sliceE P s' t x lo hi = some r := by
  unfold sliceE at h ⊢
  rw [hn]
  split at h
  · exact h
  · exact h
  · rename_i id off len
    have key : get s'.mem id = get s.mem id := by
      split at h
      · split at h
        · obtain rfl := Option.some.inj h; exact hm id (by simp)
        · exact absurd h (by simp)
      · split at h
        · obtain rfl := Option.some.inj h; exact hm id (by simp)
        · exact absurd h (by simp)
      · exact absurd h (by simp)
    simp only [key]
    exact h
  · exact absurd h (by simp)

theorem indexAddrE_foot {P : Program} {s s' : AS} {t : TypeId} {x i : AV} {r : Res} (h : indexAddrE P s t x i = some r) (hn : s'.nx = s.nx) (hm : ∀ id, id ∈ r.rd → get s'.mem id = get s.mem id) : indexAddrE P s' t x i = some r := by
  unfold indexAddrE at h ⊢
  rw [hn]
  split at h
  · rename_i k i z n hz
    try simp only [hz]
    split at h
    · exact h
    · rename_i id off len
      have key : get s'.mem id = get s.mem id := by
        split at h
        · split at h
          · obtain rfl := Option.some.inj h; exact hm id (by simp)
          · exact absurd h (by simp)
        · split at h
          · obtain rfl := Option.some.inj h; exact hm id (by simp)
          · exact absurd h (by simp)
        · exact absurd h (by simp)
      simp only [key]
      exact h
    · exact absurd h (by simp)
  · exact absurd h (by simp)

theorem appendE_foot {P : Program} {s s' : AS} {t : TypeId} {x y : AV} {ok : Bool} {r : Res} (h : appendE P s t x y ok = some r) (hn : s'.nx = s.nx) (hm : ∀ id, id ∈ r.rd → get s'.mem id = get s.mem id) : appendE P s' t x y ok = some r := by
  unfold appendE at h ⊢
  rw [hn]
  split at h
  · rename_i e he
    try simp only [he]
    split at h
    · rename_i g n b z h1 h2 h3
      try simp only [h1, h2, h3]
      split at h
      · rename_i es rd hs
        split at h
        · rename_i hc
          split at h
          · split at h
            · rename_i hl
              obtain rfl := Option.some.inj h
              rw [source_foot hs (fun id hi => hm id hi)]
              simp only [hc, and_self, if_true, hl]
            · exact absurd h (by simp)
          · rename_i id off len
            split at h
            · rename_i sz xs hg
              split at h
              · rename_i hl
                obtain rfl := Option.some.inj h
                rw [source_foot hs (fun id hi => hm id (by simp at hi ⊢; exact .inr hi))]
                simp only
                rw [hm id (by simp), hg]
                simp only
                rw [if_pos hc, if_pos hl]
              · exact absurd h (by simp)
            · exact absurd h (by simp)
          · exact absurd h (by simp)
        · exact absurd h (by simp)
      · exact absurd h (by simp)
    · exact absurd h (by simp)
  · exact absurd h (by simp)

theorem copyE_foot {P : Program} {s s' : AS} {t : TypeId} {x y : AV} {r : Res} (h : copyE P s t x y = some r) (hn : s'.nx = s.nx) (hm : ∀ id, id ∈ r.rd → get s'.mem id = get s.mem id) : copyE P s' t x y = some r := by
  unfold copyE at h ⊢
  rw [hn]
  split at h
  · rename_i g n id off len hz
    try simp only [hz]
    split at h
    · rename_i sz xs es rd hg hs
      split at h
      · rename_i hc
        obtain rfl := Option.some.inj h
        rw [source_foot hs (fun id hi => hm id (by simp at hi ⊢; exact .inr hi)), hm id (by simp), hg]
        simp only
        rw [if_pos hc]
      · exact absurd h (by simp)
    · exact absurd h (by simp)
  · exact absurd h (by simp)

theorem builtinE_foot {P : Program} {s s' : AS} {b : Builtin} {ts : List TypeId} {xs : List AV} {r : Res} (h : builtinE P s b ts xs = some r) (hn : s'.nx = s.nx) (hm : ∀ id, id ∈ r.rd → get s'.mem id = get s.mem id) : builtinE P s' b ts xs = some r := by
  unfold builtinE at h ⊢
  split at h
  · unfold lenE at h ⊢; rw [hn]; exact h
  · exact appendE_foot h hn hm
  · exact copyE_foot h hn hm
  · rw [hn]; exact h
  · rw [hn]; exact h
  · exact absurd h (by simp)

theorem ev_foot {P : Program} {s s' : AS} {o : Oper} {r : Res} (h : ev P o s = some r) (hn : s'.nx = s.nx) (ho : ∀ x, x ∈ o.op.operands.toList → opr s' x = opr s x)
    (hm : ∀ id, id ∈ r.rd → get s'.mem id = get s.mem id) : ev P o s' = some r := by
  obtain ⟨dst, op, type, pos, after, guard⟩ := o
  unfold ev at h ⊢
  simp only at h ho ⊢
  split at h
  · rw [ho _ (by simp [Op.operands]), hn]; exact h
  · rw [ho _ (by simp [Op.operands]), hn]; exact h
  · rw [ho _ (by simp [Op.operands]), ho _ (by simp [Op.operands]), ho _ (by simp [Op.operands]), hn]; exact h
  · unfold allocE at h ⊢; rw [hn]; exact h
  · rw [ho _ (by simp [Op.operands])]; unfold boxE at h ⊢; rw [hn]; exact h
  · rename_i t ps
    split at h
    · rename_i vs hv
      rw [oprs2_foot (fun x hx => ho x (by simpa [Op.operands] using hx)) hv]
      unfold buildE at h ⊢; rw [hn]; exact h
    · exact absurd h (by simp)
  · rename_i t n ps
    split at h
    · rename_i vs hv
      rw [oprs2_foot (fun x hx => ho x (by simpa [Op.operands] using hx)) hv]
      exact buildSliceE_foot h hn hm
    · exact absurd h (by simp)
  · rw [ho _ (by simp [Op.operands])]
    split at h
    · exact loadE_foot h hn hm
    · exact absurd h (by simp)
  · rw [ho _ (by simp [Op.operands]), ho _ (by simp [Op.operands])]
    split at h
    · exact storeE_foot h hn hm
    · exact absurd h (by simp)
  · rw [ho _ (by simp [Op.operands]), hn]; exact h
  · rw [ho _ (by simp [Op.operands]), ho _ (by simp [Op.operands]), hn]; exact h
  · rw [ho _ (by simp [Op.operands]), hn]; exact h
  · rw [ho _ (by simp [Op.operands])]; unfold convE at h ⊢; rw [hn]; exact h
  · rename_i f a b
    split at h
    · rename_i va vb h1 h2
      rw [oprs_foot (fun x hx => ho x (by simp only [Op.operands, Array.toList_append, List.mem_append]; exact .inl hx)) h1, oprs_foot (fun x hx => ho x (by simp only [Op.operands, Array.toList_append, List.mem_append]; exact .inr hx)) h2, hn]
      exact h
    · exact absurd h (by simp)
  · rw [ho _ (by simp [Op.operands]), ho _ (by simp [Op.operands])]; unfold makeSliceE at h ⊢; rw [hn]; exact h
  · rw [ho _ (by simp [Op.operands])]
    split at h
    · exact sliceE_foot h hn hm
    · exact absurd h (by simp)
  · rw [ho _ (by simp [Op.operands]), ho _ (by simp [Op.operands])]
    split at h
    · exact sliceE_foot h hn hm
    · exact absurd h (by simp)
  · rw [ho _ (by simp [Op.operands]), ho _ (by simp [Op.operands])]
    split at h
    · exact sliceE_foot h hn hm
    · exact absurd h (by simp)
  · rw [ho _ (by simp [Op.operands]), ho _ (by simp [Op.operands]), ho _ (by simp [Op.operands])]
    split at h
    · exact sliceE_foot h hn hm
    · exact absurd h (by simp)
  · rw [ho _ (by simp [Op.operands])]; unfold fieldAddrE at h ⊢; rw [hn]; exact h
  · rw [ho _ (by simp [Op.operands])]; unfold fieldE at h ⊢; rw [hn]; exact h
  · rw [ho _ (by simp [Op.operands]), ho _ (by simp [Op.operands])]
    split at h
    · exact indexAddrE_foot h hn hm
    · exact absurd h (by simp)
  · rw [ho _ (by simp [Op.operands]), ho _ (by simp [Op.operands])]; unfold indexE at h ⊢; rw [hn]; exact h
  · rw [ho _ (by simp [Op.operands]), hn]; exact h
  · rename_i c
    split at h
    · rename_i b hb
      try simp only [hb]
      split at h
      · rename_i vs hv
        rw [oprs_foot (fun x hx => ho x (by simp [Op.operands, Call.operands, hb]; simpa using hx)) hv]
        exact builtinE_foot h hn hm
      · exact absurd h (by simp)
    · exact absurd h (by simp)
  · exact absurd h (by simp)
end Go.Ab
end
