/- The abstract interpreter: copy; every operation that is no call. -/
import Derived.Test.YtchibfkcphbmjaaAb16
set_option linter.unusedVariables false
set_option linter.unusedSimpArgs false
set_option linter.unusedSectionVars false

section
namespace Go.Ab
open Go.RowKit (Below)

theorem run_copy {P : Program} {t e u : TypeId} {g : Bool} {n m dLen cap : Nat} {x : Value} {w w' : World} {cn : Array Value} {a : Addr} (ty : TypeId) (he : P.underlying t = some (.slice e)) (hz : tsz P e = some (g, n))
    (hlen : (Builtin.lenOf x).run P w = .ok m w) (hnew : (Builtin.firstCells n (min m dLen) x).run P w = .ok cn w) (hst : (storeCells a cn.toList).run P w = .ok () w') :
    (Builtin.copy_ #[t, u] ty #[.slice (some a) dLen cap, x]).run P w = .ok (goInt (min m dLen : Nat)) w' := by
  have hnew' : (Builtin.firstCells n (Nat.min m dLen) x).run P w = .ok cn w := hnew
  simp only [Builtin.copy_, List.getElem?_toArray, List.getElem?_cons_zero, List.getElem?_cons_succ, Sem.run_bind, run_underlying he, Result.andThen_ok, run_sizeOf_tsz hz, hlen, hnew', hst, Sem.run_pure]
theorem run_copy_nil {P : Program} {t e u : TypeId} {g : Bool} {n m : Nat} {x : Value} {w : World} {cn : Array Value} (ty : TypeId) (he : P.underlying t = some (.slice e)) (hz : tsz P e = some (g, n))
    (hlen : (Builtin.lenOf x).run P w = .ok m w) (hnew : (Builtin.firstCells n 0 x).run P w = .ok cn w) :
    (Builtin.copy_ #[t, u] ty #[.slice none 0 0, x]).run P w = .ok (goInt 0) w := by
  simp only [Builtin.copy_, List.getElem?_toArray, List.getElem?_cons_zero, List.getElem?_cons_succ, Sem.run_bind, run_underlying he, Result.andThen_ok, run_sizeOf_tsz hz, hlen, Sem.run_pure, Nat.min_zero, hnew]
  rfl

theorem copy_sound {E : Env} {P : Program} {w0 : World} {okb : Nat → Prop} {s : AS} {t u : TypeId} {v c : AV} {x y : Value} {r : Res} (hF : Frm E w0 okb) (hM : MemRel E w0.heap.size s.mem)
    (hx : Rep E v x) (hy : Rep E c y) (h : copyE P s t v c = some r) (ty : TypeId) :
    ∃ y' E', (Builtin.copy_ #[t, u] ty #[x, y]).run P E.w = .ok y' E'.w ∧ Stepped E w0 okb s.mem s.nx r y' E' := by
  unfold copyE at h
  split at h
  · rename_i g n id off len hzz
    obtain ⟨e, hu, hz⟩ := elem_tsz hzz
    split at h
    · rename_i sz xs es rd hg hsrc
      split at h
      · rename_i hc
        obtain ⟨rfl, hol, hn⟩ := hc
        obtain rfl := Option.some.inj h
        obtain ⟨hlen, hes, f2, hf2, hg2⟩ := source_sound (P := P) hM hn hy hsrc
        have hm1 : min es.length len ≤ es.length := Nat.min_le_left _ _
        have hm2 : min es.length len ≤ len := Nat.min_le_right _ _
        rcases hx.own_inv.2 with ⟨hl, rfl, rfl, rfl⟩ | ⟨b', o, z', cap0, hl, rfl, hcap0, c0', t0', fz0, hb0', hroom⟩
        · have hxe : xs = [] := by have := (hM.arr id _ hg).2; simpa only [ArrRel, hl] using this
          subst hxe
          refine ⟨_, E, run_copy_nil ty hu hz (hlen _) (hf2 0 (Nat.zero_le _) E.w rfl), .refl E, fun id => ⟨.inl, fun h => h.elim (fun h => h) (fun h => by simp only at h; omega)⟩, by simp, hF, ?_, ?_⟩
          · refine hM.cons (hM.arr id _ hg).1 ?_ (fun _ id' arr' b o z o' z' hne hg' hm h2 h3 => by rw [hl] at h2; cases h2)
            simp [ArrRel, hl]
          · rw [Nat.min_zero]; exact .pure (.sc _)
        · have hzz := row_loc hM (.inl hg) hl
          subst hzz
          have hr := (hM.arr id _ hg).2
          simp only [ArrRel, hl] at hr
          obtain ⟨c0, t0, hb0, hbase, hnok, hsz, _, hc1⟩ := hr
          generalize hm : min es.length len = m at *
          let cn : List Value := (List.range (m * z')).map f2
          have hcnl : cn.length = m * z' := by simp [cn]
          have hmz : (off + m) * z' ≤ xs.length * z' := Nat.mul_le_mul_right z' (by omega)
          have hroom2 : o + off * z' + cn.length ≤ c0.size := by rw [Nat.add_mul] at hmz; omega
          have hcn1 : ∀ v ∈ cn, v.oneCell' = true := by
            intro v hv
            simp only [cn, List.mem_map, List.mem_range] at hv
            obtain ⟨k, hk, rfl⟩ := hv
            have h1 : k / z' < es.length := Nat.lt_of_lt_of_le (Nat.div_lt_of_lt_mul (by rw [Nat.mul_comm]; exact hk)) hm1
            have hget : es[k / z']? = some es[k / z'] := List.getElem?_eq_getElem h1
            have := (hg2 (k / z') _ (k % z') _ hget (List.getElem?_eq_getElem (by rw [hes _ _ hget]; exact Nat.mod_lt _ hn))).1
            rwa [Nat.div_add_mod'] at this
          have hst := run_storeCells_at (P := P) b' (o + off * z') t0 cn 0 c0 E.w hb0 (by omega) hcn1
          rw [Nat.add_zero] at hst
          let c' := (c0.toList.take (o + off * z') ++ cn ++ c0.toList.drop (o + off * z' + cn.length)).toArray
          have hst2 : (storeCells (⟨b', o + off * z', none⟩ : Addr) ((List.range (m * z')).map f2).toArray.toList).run P E.w = .ok () (E.w.setRow b' c') := hst
          have hrun := run_copy (u := u) (w := E.w) (cap := cap0) ty hu hz (hlen _) (by rw [hm]; exact hf2 m hm1 E.w rfl) hst2
          rw [hm] at hrun
          have hcs : c'.size = c0.size := by simp [c']; omega
          obtain ⟨hle1, hF1, hat, hmem⟩ := set_block hF hM hg rfl hl hb0 hbase hnok hcs
          refine ⟨_, E.set b' c', hrun, hle1, fun id' => ⟨.inl, fun h => h.elim (fun h => h) (fun h => by simp only at h; omega)⟩, by simp, hF1, hmem _ ?_, .pure (.sc _)⟩
          simp only [ArrRel]
          rw [show (E.set b' c').loc id = some (b', o, z') from hl]
          have hxl : (xs.take off ++ es.take m ++ xs.drop (off + m)).length = xs.length := by simp; omega
          refine ⟨c', t0, hat, hbase, hnok, by rw [hxl, hcs]; exact hsz, rfl, ?_⟩
          have hcm : Cells (E.set b' c').w (E.set b' c').ok c0 o z' xs := hc1.mono hle1.ok hle1.blk
          have hcell : ∀ q, c'[q]? = if q < o + off * z' then c0[q]? else if q < o + off * z' + cn.length then cn[q - (o + off * z')]? else c0[q]? := by
            intro q
            have := splice_get (l := c0.toList) (v := cn) (p := o + off * z') (q := q) (by simpa using hroom2)
            simpa [c'] using this
          intro k row hk
          rw [List.append_assoc, List.getElem?_append, List.length_take, Nat.min_eq_left (by omega)] at hk
          split at hk
          · rename_i hlt
            rw [List.getElem?_take, if_pos hlt] at hk
            obtain ⟨q1, q2⟩ := hcm k row hk
            refine ⟨q1, fun j a hj => ?_⟩
            have hjn : j < z' := by rw [← q1]; exact (List.getElem?_eq_some_iff.1 hj).1
            have := idx_lt hlt hjn
            obtain ⟨y', e1, e2⟩ := q2 j a hj
            exact ⟨y', by rw [hcell, if_pos (by omega)]; exact e1, e2⟩
          · rename_i hge
            rw [List.getElem?_append, List.length_take, Nat.min_eq_left hm1] at hk
            split at hk
            · rename_i hlt
              rw [List.getElem?_take, if_pos hlt] at hk
              refine ⟨hes _ row hk, fun j a hj => ?_⟩
              have hjn : j < z' := by rw [← hes _ row hk]; exact (List.getElem?_eq_some_iff.1 hj).1
              have h1 := idx_lt hlt hjn
              have hkk : k * z' = off * z' + (k - off) * z' := by rw [← Nat.add_mul]; congr 1; omega
              obtain ⟨q2, q3⟩ := hg2 _ row j a hk hj
              refine ⟨_, ?_, q2, q3.mono hle1.ok hle1.blk⟩
              rw [hcell, if_neg (by omega), if_pos (by omega), show o + k * z' + j - (o + off * z') = (k - off) * z' + j by omega]
              simp [cn, h1]
            · rename_i hge2
              rw [List.getElem?_drop, show off + m + (k - off - m) = k by omega] at hk
              obtain ⟨q1, q2⟩ := hcm k row hk
              refine ⟨q1, fun j a hj => ?_⟩
              obtain ⟨y', e1, e2⟩ := q2 j a hj
              have : (off + m) * z' ≤ k * z' := Nat.mul_le_mul_right z' (by omega)
              rw [Nat.add_mul] at this
              exact ⟨y', by rw [hcell, if_neg (by omega), if_neg (by omega)]; exact e1, e2⟩
      · exact absurd h (by simp)
    · exact absurd h (by simp)
  · exact absurd h (by simp)

/-- What the machine does at an operation that is no call of a function. -/
def OpRun (P : Program) (o : Oper) (a : Act) (w : World) (x : Value) (w' : World) : Prop :=
  (execOp a.eval o).run P w = .ok (.value x) w' ∨ ((execOp a.eval o).run P w = .ok .skip w' ∧ x = undef)

theorem vals1 {E : Env} {vs : List AV} {l : List Value} (h : Reps E vs l) {a : AV} (e : vs = [a]) : ∃ x, l = [x] ∧ Rep E a x := by
  subst e
  obtain ⟨x, rfl⟩ : ∃ x, l = [x] := List.length_eq_one_iff.1 h.1
  exact ⟨x, rfl, h.2 0 _ _ rfl rfl⟩

theorem builtin_sound {E : Env} {P : Program} {w0 : World} {okb : Nat → Prop} {s : AS} {b : Builtin} {ts : List TypeId} {vs : List AV} {l : List Value} {r : Res} (hF : Frm E w0 okb) (hM : MemRel E w0.heap.size s.mem)
    (hl : Reps E vs l) (h : builtinE P s b ts vs = some r) (hid : ∀ id, s.nx ≤ id → id < r.nx → ¬ E.al id) (ty : TypeId) (cs : Array Bool) :
    ∃ y E', (builtin b ts.toArray ty cs l.toArray).run P E.w = .ok (.value y) E'.w ∧ Stepped E w0 okb s.mem s.nx r y E' := by
  unfold builtinE at h
  split at h
  · obtain ⟨x, rfl⟩ : ∃ x, l = [x] := List.length_eq_one_iff.1 hl.1
    obtain ⟨y, hy, hS⟩ := len_sound hF hM (hl.2 0 _ x rfl rfl) h ty
    exact ⟨y, E, by simp [builtin, hy], hS⟩
  · obtain ⟨x, y, rfl⟩ : ∃ x y, l = [x, y] := by
      have := hl.1
      match l, this with
      | [x, y], _ => exact ⟨x, y, rfl⟩
    obtain ⟨z, E', hz, hS⟩ := append_sound hF hM (hl.2 0 _ x rfl rfl) (hl.2 1 _ y rfl rfl) h hid ty
    exact ⟨z, E', by simp [builtin, hz], hS⟩
  · obtain ⟨x, y, rfl⟩ : ∃ x y, l = [x, y] := by
      have := hl.1
      match l, this with
      | [x, y], _ => exact ⟨x, y, rfl⟩
    rename_i t0 u0 _ _
    obtain ⟨z, E', hz, hS⟩ := copy_sound (u := u0) hF hM (hl.2 0 _ x rfl rfl) (hl.2 1 _ y rfl rfl) h ty
    exact ⟨z, E', by simp [builtin, hz], hS⟩
  · rename_i k a rest
    cases hm : minmax true a rest with
    | none => simp [hm] at h
    | some m =>
      simp only [hm, Option.map_some, Option.some.injEq] at h
      subst h
      cases l with
      | nil => have := hl.1; simp at this
      | cons x l =>
        obtain rfl := (hl.2 0 _ x rfl rfl).sc_inv
        have hr : Reps E rest l := drop_reps hl 1
        have := minmax_sound (P := P) true k hm hr E.w
        simp only [if_true] at this
        exact ⟨_, E, by simp [builtin, Builtin.max_, this], .same hF hM (.pure (.sc _))⟩
  · rename_i k a rest
    cases hm : minmax false a rest with
    | none => simp [hm] at h
    | some m =>
      simp only [hm, Option.map_some, Option.some.injEq] at h
      subst h
      cases l with
      | nil => have := hl.1; simp at this
      | cons x l =>
        obtain rfl := (hl.2 0 _ x rfl rfl).sc_inv
        have hr : Reps E rest l := drop_reps hl 1
        have := minmax_sound (P := P) false k hm hr E.w
        simp only [Bool.false_eq_true, if_false] at this
        exact ⟨_, E, by simp [builtin, Builtin.min_, this], .same hF hM (.pure (.sc _))⟩
  · exact absurd h (by simp)

theorem ev_sound {E : Env} {P : Program} {w0 : World} {okb : Nat → Prop} {s : AS} {o : Oper} {a : Act} {r : Res} (hF : Frm E w0 okb) (hM : MemRel E w0.heap.size s.mem) (hT : TmOk E s a)
    (h : ev P o s = some r) (hid : ∀ id, s.nx ≤ id → id < r.nx → ¬ E.al id) : ∃ x E', OpRun P o a E.w x E'.w ∧ Stepped E w0 okb s.mem s.nx r x E' := by
  obtain ⟨dst, op, type, pos, after, guard⟩ := o
  unfold ev at h
  simp only at h
  split at h
  · rename_i x
    split at h
    · rename_i v hv
      obtain rfl := Option.some.inj h
      exact ⟨_, E, .inl rfl, .same hF hM (opr_sound hT hv)⟩
    · exact absurd h (by simp)
  · rename_i x
    split at h
    · rename_i v hv
      obtain rfl := Option.some.inj h
      exact ⟨_, E, .inl rfl, .same hF hM (opr_sound hT hv)⟩
    · exact absurd h (by simp)
  · rename_i c x y
    split at h
    · rename_i t hc
      have hcv := (opr_sound hT hc).sc_inv
      split at h
      · rename_i v hv
        obtain rfl := Option.some.inj h
        cases t with
        | true => simp only [if_true] at hv; exact ⟨a.eval x, E, .inl (by simp [execOp, hcv, asBool]), .same hF hM (opr_sound hT hv)⟩
        | false => simp only [Bool.false_eq_true, if_false] at hv; exact ⟨a.eval y, E, .inl (by simp [execOp, hcv, asBool]), .same hF hM (opr_sound hT hv)⟩
      · exact absurd h (by simp)
    · exact absurd h (by simp)
  · rename_i t
    obtain ⟨y, E', hy, hS⟩ := alloc_sound hF hM h hid
    exact ⟨y, E', .inl (by simp [execOp, hy]), hS⟩
  · rename_i t x
    split at h
    · rename_i v hv
      obtain ⟨y, E', hy, hS⟩ := boxE_sound (t := t) (P := P) hF hM (opr_sound hT hv) h hid
      exact ⟨y, E', .inl (by simp [execOp, hy]), hS⟩
    · exact absurd h (by simp)
  · rename_i t ps
    split at h
    · rename_i vs hvs
      obtain ⟨h1, h2⟩ := oprs2_sound hT hvs
      obtain ⟨y, hy, hS⟩ := build_sound (pv := ps.map fun p => (p.1, a.eval p.2)) hF hM (by simpa using h1) (by simpa using h2) h
      exact ⟨y, E, .inl (by simp [execOp, hy]), hS⟩
    · exact absurd h (by simp)
  · rename_i t n ps
    split at h
    · rename_i vs hvs
      obtain ⟨h1, h2⟩ := oprs2_sound hT hvs
      obtain ⟨y, E', hy, hS⟩ := buildSlice_sound (pv := ps.map fun p => (p.1, a.eval p.2)) hF hM (by simpa using h1) (by simpa using h2) h hid
      exact ⟨y, E', .inl (by simp [execOp, hy]), hS⟩
    · exact absurd h (by simp)
  · rename_i t p
    split at h
    · rename_i v hv
      obtain ⟨y, hy, hS⟩ := load_sound hF hM (opr_sound hT hv) h
      exact ⟨y, E, .inl (by simp [execOp, hy]), hS⟩
    · exact absurd h (by simp)
  · rename_i t p x
    split at h
    · rename_i p' v hp hv
      obtain ⟨E', hy, hS⟩ := store_sound hF hM (opr_sound hT hp) (opr_sound hT hv) h
      exact ⟨undef, E', .inr ⟨by simp [execOp, hy], rfl⟩, hS⟩
    · exact absurd h (by simp)
  · rename_i x
    split at h
    · rename_i id i j hv
      obtain rfl := Option.some.inj h
      have hr := opr_sound hT hv
      obtain ⟨ha, b, o, z, hl, he⟩ := hr.ptr_inv
      exact ⟨a.eval x, E, .inl (by simp [execOp, he]), .same hF hM hr⟩
    · rename_i cs hv
      obtain rfl := Option.some.inj h
      have hr := opr_sound hT hv
      obtain ⟨b, o, he, _⟩ := hr.ref_inv
      exact ⟨a.eval x, E, .inl (by simp [execOp, he]), .same hF hM hr⟩
    · rename_i f p q hv
      obtain rfl := Option.some.inj h
      have hr := opr_sound hT hv
      obtain ⟨fv, cv, he, _⟩ := hr.fn_inv
      exact ⟨a.eval x, E, .inl (by simp [execOp, he]), .same hF hM hr⟩
    · exact absurd h (by simp)
  · rename_i op t x y u
    split at h
    · rename_i p q hp hq
      split at h
      · rename_i v hv
        obtain rfl := Option.some.inj h
        obtain ⟨z, hz, hR⟩ := bin_sound (P := P) hv (opr_sound hT hp) (opr_sound hT hq) x y E.w
        exact ⟨z, E, .inl (by simp only [execOp]; rw [Sem.run_bind, hz]; rfl), .same hF hM hR⟩
      · exact absurd h (by simp)
    · exact absurd h (by simp)
  · rename_i op t x
    split at h
    · rename_i p hp
      split at h
      · rename_i v hv
        obtain rfl := Option.some.inj h
        obtain ⟨z, hz, hR⟩ := un_sound (P := P) hv (opr_sound hT hp) E.w
        exact ⟨z, E, .inl (by simp [execOp, hz]), .same hF hM hR⟩
      · exact absurd h (by simp)
    · exact absurd h (by simp)
  · rename_i t u x
    split at h
    · rename_i v hv
      obtain ⟨y, hy, hS⟩ := conv_sound hF hM (opr_sound hT hv) h
      exact ⟨y, E, .inl (by simp [execOp, hy]), hS⟩
    · exact absurd h (by simp)
  · rename_i f x y
    split at h
    · rename_i p q hp hq
      obtain rfl := Option.some.inj h
      have h1 := oprs_sound hT hp
      have h2 := oprs_sound hT hq
      refine ⟨.func (.func f) (x.map a.eval) (y.map a.eval), E, .inl (by simp [execOp, Instr.makeFunc]), .same hF hM ?_⟩
      have := Rep.fn (E := E) f p q _ _ h1.1 h2.1 h1.2 h2.2
      rwa [show (x.toList.map a.eval).toArray = x.map a.eval from Array.ext' (by simp), show (y.toList.map a.eval).toArray = y.map a.eval from Array.ext' (by simp)] at this
    · exact absurd h (by simp)
  · rename_i t l c
    split at h
    · rename_i p q hp hq
      obtain ⟨y, E', hy, hS⟩ := makeSlice_sound hF hM (opr_sound hT hp) (opr_sound hT hq) h hid
      exact ⟨y, E', .inl (by simp [execOp, hy]), hS⟩
    · exact absurd h (by simp)
  · rename_i t x
    split at h
    · rename_i v hv
      obtain ⟨y, hy, hS⟩ := slice_sound (lo := none) (hi := none) (vlo := none) (vhi := none) hF hM (opr_sound hT hv) trivial trivial h
      exact ⟨y, E, .inl (by simp [execOp, hy]), hS⟩
    · exact absurd h (by simp)
  · rename_i t x l
    split at h
    · rename_i v p hv hp
      obtain ⟨y, hy, hS⟩ := slice_sound (lo := some p) (hi := none) (vlo := some (a.eval l)) (vhi := none) hF hM (opr_sound hT hv) (opr_sound hT hp) trivial h
      exact ⟨y, E, .inl (by simp [execOp, hy]), hS⟩
    · exact absurd h (by simp)
  · rename_i t x q
    split at h
    · rename_i v p hv hp
      obtain ⟨y, hy, hS⟩ := slice_sound (lo := none) (hi := some p) (vlo := none) (vhi := some (a.eval q)) hF hM (opr_sound hT hv) trivial (opr_sound hT hp) h
      exact ⟨y, E, .inl (by simp [execOp, hy]), hS⟩
    · exact absurd h (by simp)
  · rename_i t x l q
    split at h
    · rename_i v p p' hv hp hp'
      obtain ⟨y, hy, hS⟩ := slice_sound (lo := some p) (hi := some p') (vlo := some (a.eval l)) (vhi := some (a.eval q)) hF hM (opr_sound hT hv) (opr_sound hT hp) (opr_sound hT hp') h
      exact ⟨y, E, .inl (by simp [execOp, hy]), hS⟩
    · exact absurd h (by simp)
  · rename_i t x f
    split at h
    · rename_i v hv
      obtain ⟨y, hy, hS⟩ := fieldAddr_sound hF hM (opr_sound hT hv) h
      exact ⟨y, E, .inl (by simp [execOp, hy]), hS⟩
    · exact absurd h (by simp)
  · rename_i t x f
    split at h
    · rename_i v hv
      obtain ⟨y, hy, hS⟩ := field_sound hF hM (opr_sound hT hv) h
      exact ⟨y, E, .inl (by simp [execOp, hy]), hS⟩
    · exact absurd h (by simp)
  · rename_i t x i
    split at h
    · rename_i v p hv hp
      obtain ⟨y, hy, hS⟩ := indexAddr_sound hF hM (opr_sound hT hv) (opr_sound hT hp) h
      exact ⟨y, E, .inl (by simp [execOp, hy]), hS⟩
    · exact absurd h (by simp)
  · rename_i t x i
    split at h
    · rename_i v p hv hp
      obtain ⟨y, hy, hS⟩ := index_sound hF hM (opr_sound hT hv) (opr_sound hT hp) h
      exact ⟨y, E, .inl (by simp [execOp, hy]), hS⟩
    · exact absurd h (by simp)
  · rename_i x i
    split at h
    · rename_i vs hv
      split at h
      · rename_i v hvi
        obtain rfl := Option.some.inj h
        obtain ⟨cv, he, hr⟩ := (opr_sound hT hv).tup_inv
        obtain ⟨y, hy⟩ : ∃ y, cv[i]? = some y := ⟨_, List.getElem?_eq_getElem (by have := (List.getElem?_eq_some_iff.1 hvi).1; rw [hr.1]; exact this)⟩
        exact ⟨y, E, .inl (by simp [execOp, he, Instr.extract, hy]), .same hF hM (hr.2 i v y hvi hy)⟩
      · exact absurd h (by simp)
    · exact absurd h (by simp)
  · rename_i c
    split at h
    · rename_i b hb
      split at h
      · rename_i vs hvs
        have hr := oprs_sound hT hvs
        obtain ⟨y, E', hy, hS⟩ := builtin_sound hF hM hr h hid type (c.args.map fun | .const _ => true | _ => false)
        refine ⟨y, E', .inl ?_, hS⟩
        simp only [execOp, resolve, hb, Sem.run_bind, Sem.run_pure, Result.andThen_ok, invoke]
        have e : (c.args.map a.eval) = (c.args.toList.map a.eval).toArray := Array.ext' (by simp)
        rw [e]
        exact hy
      · exact absurd h (by simp)
    · exact absurd h (by simp)
  · exact absurd h (by simp)
end Go.Ab
end

section
namespace Go.Ab
open Go.RowKit (Below)

/-- The result of a call, by what was there before (h blocks): the blocks that are handed over. -/
inductive RR (w : World) (ok : Nat → Prop) (h : Nat) : AV → Value → List Nat → Prop
  | pure {a : AV} {v : Value} (hp : RepP w ok a v) : RR w ok h a v []
  | frNil (sz : Nat) : RR w ok h (.fr sz []) (.slice none 0 0) []
  | fr (sz : Nat) (xs : List (List AV)) (b o cap : Nat) (c : Array Value) (t : TypeId) (hb : w.heap[b]? = some (.cells c t (0, 0))) (hh : h ≤ b) (hl : xs.length ≤ cap) (hs : o + cap * sz ≤ c.size)
      (hc : Cells w ok c o sz xs) : RR w ok h (.fr sz xs) (.slice (some ⟨b, o, none⟩) xs.length cap) [b]

inductive RRs (w : World) (ok : Nat → Prop) (h : Nat) : List AV → List Value → List Nat → Prop
  | nil : RRs w ok h [] [] []
  | cons {a : AV} {v : Value} {as : List AV} {vs : List Value} {x y : List Nat} (ha : RR w ok h a v x) (hr : RRs w ok h as vs y) : RRs w ok h (a :: as) (v :: vs) (x ++ y)
  | agg {cs : List AV} {cv : List Value} {as : List AV} {vs : List Value} {x y : List Nat} (h1 : ∀ v, v ∈ cv → v.oneCell' = true) (ha : RRs w ok h cs cv x) (hr : RRs w ok h as vs y) :
      RRs w ok h (.agg cs :: as) (.agg cv.toArray :: vs) (x ++ y)

/-- What a call's result is. -/
def ResOk (w w' : World) (ok : Nat → Prop) (r : AV) (v : Value) : Prop :=
  ∃ bs rs vs, bs.Nodup ∧ RRs w' (fun b => (ok b ∨ (w.heap.size ≤ b ∧ b < w'.heap.size)) ∧ b ∉ bs) w.heap.size rs vs bs ∧ r = (match rs with | [a] => a | _ => .tup rs) ∧ v = (match vs with | [a] => a | _ => .tuple vs.toArray)

def Enters (P : Program) (f : FuncId) : Prop := ∃ fn c, P.funcs[f]? = some fn ∧ fn.body = some c ∧ (fn.name == "runtime.NumGoroutine") = false

def RepsP (w : World) (ok : Nat → Prop) (as : List AV) (vs : List Value) : Prop := vs.length = as.length ∧ ∀ (j : Nat) (a : AV) (v : Value), as[j]? = some a → vs[j]? = some v → RepP w ok a v

def RSound (P : Program) (R : CallRel) : Prop := ∀ f as r, R f as r → Enters P f ∧ ∀ (w : World) (ok : Nat → Prop) (vs : List Value), (∀ b, ok b → b < w.heap.size) → RepsP w ok as vs →
  Calls P f vs.toArray w fun e w' => ∃ v, e = .returned v ∧ Below w.heap.size w w' ∧ ResOk w w' ok r v

theorem below_le {E : Env} {w' : World} (hlt : ∀ b, E.ok b → b < E.w.heap.size) (hB : Below E.w.heap.size E.w w') : E.Le { E with w := w' } where
  ok := fun _ h => h
  blk := fun b h => hB.block b (hlt b h)
  al := fun _ h => ⟨h, rfl⟩
  sz := fun b c t f h => ⟨c, f, (hB.block b (lt_of_blk h)).trans h, rfl⟩

theorem mut_fact {E : Env} {base : Nat} {mem : List (Nat × Arr)} (hM : MemRel E base mem) {i : Nat} {arr : Arr} {b o z : Nat} (hg : get mem i = some arr) (hm : arr.isMut = true) (hl : E.loc i = some (b, o, z)) :
    ¬ E.ok b ∧ b < E.w.heap.size ∧ base ≤ b := by
  have hr := (hM.arr i arr hg).2
  cases arr with
  | row sz xs => simp only [ArrRel, hl] at hr; obtain ⟨_, _, hb, h1, h, _⟩ := hr; exact ⟨h, lt_of_blk hb, h1⟩
  | box cs => obtain ⟨b2, c2, t2, h2, hb, h1, h, _⟩ := hr; rw [hl] at h2; obtain ⟨rfl, -⟩ := Prod.mk.inj (Option.some.inj h2); exact ⟨h, lt_of_blk hb, h1⟩
  | frz _ _ => cases hm
  | dead => cases hm

/-- Behind a call: what the callee made may be read. -/
def Env.after (E : Env) (w' : World) (bs : List Nat) : Env := { E with w := w', ok := fun b => (E.ok b ∨ (E.w.heap.size ≤ b ∧ b < w'.heap.size)) ∧ b ∉ bs }

theorem after_env {E : Env} {w0 w' : World} {okb : Nat → Prop} {mem : List (Nat × Arr)} (hF : Frm E w0 okb) (hM : MemRel E w0.heap.size mem) (hB : Below E.w.heap.size E.w w') {bs : List Nat} (hbs : ∀ b, b ∈ bs → E.w.heap.size ≤ b) :
    E.Le (E.after w' bs) ∧ Frm (E.after w' bs) w0 okb ∧ MemRel (E.after w' bs) w0.heap.size mem := by
  have hle : E.Le (E.after w' bs) := {
    ok := fun b h => ⟨.inl h, fun hb => by have := hbs b hb; have := hF.lt b h; omega⟩
    blk := fun b h => hB.block b (hF.lt b h)
    al := fun _ h => ⟨h, rfl⟩
    sz := fun b c t f h => ⟨c, f, (hB.block b (lt_of_blk h)).trans h, rfl⟩ }
  refine ⟨hle, ⟨hF.below.trans (hB.mono hF.below.size), fun b hb h => ?_, fun b h => ?_⟩, hM.mono hle fun i arr hg hm b o z hl => ?_⟩
  · rcases h.1 with h1 | ⟨h1, _⟩
    · exact hF.okb b hb h1
    · have := hF.below.size; omega
  · rcases h.1 with h1 | ⟨_, h1⟩
    · exact Nat.lt_of_lt_of_le (hF.lt b h1) hB.size
    · exact h1
  · obtain ⟨h1, h2, h3⟩ := mut_fact hM hg hm hl
    refine ⟨hB.block b h2, ?_⟩
    rintro ⟨h4 | ⟨h4, _⟩, _⟩
    · exact h1 h4
    · omega

/-- A block that is handed over, under a new number. -/
theorem import_one {E : Env} {w0 : World} {okb : Nat → Prop} {mem : List (Nat × Arr)} {nx : Nat} {a : AV} {v : Value} {h : Nat} {bs : List Nat} (hF : Frm E w0 okb) (hM : MemRel E w0.heap.size mem) (hid : ∀ id, nx ≤ id → id < (impCell nx a).2.2 → ¬ E.al id)
    (hr : RR E.w E.ok h a v bs) (hno : ∀ b, b ∈ bs → ¬ E.ok b) (hbase : w0.heap.size ≤ h) (hfar : ∀ b, b ∈ bs → ∀ i arr b' o z, get mem i = some arr → arr.isMut = true → E.loc i = some (b', o, z) → b' ≠ b) :
    ∃ E', E'.w = E.w ∧ E'.ok = E.ok ∧ Stepped E w0 okb mem nx ⟨(impCell nx a).1, (impCell nx a).2.1, (impCell nx a).2.2, []⟩ v E' ∧
      ∀ i arr b' o z, get ((impCell nx a).2.1 ++ mem) i = some arr → arr.isMut = true → E'.loc i = some (b', o, z) → b' ∈ bs ∨ ∃ arr' o' z', get mem i = some arr' ∧ arr'.isMut = true ∧ E.loc i = some (b', o', z') := by
  cases hr with
  | pure hp =>
    have e : impCell nx a = (a, [], nx) := by cases a <;> first | rfl | cases hp
    rw [e]
    exact ⟨E, rfl, rfl, .same hF hM (.pure hp), fun i arr b' o z hg hm hl => .inr ⟨arr, o, z, hg, hm, hl⟩⟩
  | frNil sz =>
    have hid' : ¬ E.al nx := hid nx (Nat.le_refl _) (by simp [impCell])
    have hne : ∀ i, E.al i → i ≠ nx := by rintro i hi rfl; exact hid' hi
    refine ⟨E.nilNew nx, rfl, rfl, nil_new hF hM hid', fun i arr b' o z hg hm hl => ?_⟩
    simp only [impCell, List.cons_append, List.nil_append, get_cons] at hg
    split at hg
    · rename_i e
      subst e
      have : (E.nilNew nx).loc nx = none := if_pos rfl
      rw [this] at hl; cases hl
    · refine .inr ⟨arr, o, z, hg, hm, ?_⟩
      have : (E.nilNew nx).loc i = E.loc i := if_neg (hne i (hM.arr i arr hg).1)
      rwa [this] at hl
  | fr sz xs b o cap c t hb hh hl hs hc =>
    have hid' : ¬ E.al nx := hid nx (Nat.le_refl _) (by simp [impCell])
    have hne : ∀ i, E.al i → i ≠ nx := by rintro i hi rfl; exact hid' hi
    obtain ⟨hle, hM'⟩ := relabel (E' := E.takes nx b o sz) hM rfl rfl hid' (fun i hi => if_neg hi) (fun i h => .inl h)
    have hl2 : (E.takes nx b o sz).loc nx = some (b, o, sz) := if_pos rfl
    refine ⟨E.takes nx b o sz, rfl, rfl, ⟨hle, fun id => ⟨fun h => h.elim .inl (fun e => .inr (by simp only [impCell]; omega)), fun h => h.elim .inl (fun e => .inr (by simp only [impCell] at e; omega))⟩, by simp [impCell], ⟨hF.below, hF.okb, hF.lt⟩, ?_, ?_⟩, ?_⟩
    · refine hM'.cons (.inr rfl) ?_ (fun _ id' arr' b2 o2 z2 o3 z3 hne' hg' hm h2 h3 => ?_)
      · simp only [ArrRel, hl2]
        exact ⟨c, t, hb, by omega, hno b (by simp), by have := Nat.mul_le_mul_right sz hl; omega, trivial, hc⟩
      · rw [hl2] at h2
        obtain ⟨rfl, -⟩ := Prod.mk.inj (Option.some.inj h2)
        have : (E.takes nx b o sz).loc id' = E.loc id' := if_neg hne'
        rw [this] at h3
        exact hfar b (by simp) id' arr' b o3 z3 hg' hm h3 rfl
    · have := Rep.own (E := E.takes nx b o sz) nx 0 xs.length b o sz cap (.inr rfl) hl2 hl ⟨c, t, _, hb, by simpa using hs⟩
      simpa [impCell] using this
    · intro i arr b' o' z' hg hm hl'
      simp only [impCell, List.cons_append, List.nil_append, get_cons] at hg
      split at hg
      · rename_i e
        subst e
        rw [hl2] at hl'
        obtain ⟨rfl, -⟩ := Prod.mk.inj (Option.some.inj hl')
        exact .inl (by simp)
      · refine .inr ⟨arr, o', z', hg, hm, ?_⟩
        have : (E.takes nx b o sz).loc i = E.loc i := if_neg (hne i (hM.arr i arr hg).1)
        rwa [this] at hl'
end Go.Ab
end
