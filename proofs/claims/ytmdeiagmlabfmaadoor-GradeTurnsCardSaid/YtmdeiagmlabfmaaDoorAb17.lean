/- The abstract interpreter: copy; every operation that is no call. -/
import Derived.Test.YtmdeiagmlabfmaaDoorAb16
set_option linter.unusedVariables false
set_option linter.unusedSimpArgs false
set_option linter.unusedSectionVars false

namespace Go.Ab
open Go.RowKit (Below)

theorem run_copy {P : Program} {t e u : TypeId} {g : Bool} {n m dLen cap : Nat} {x : Value} {w w' : World} {cn : Array Value} {a : Addr} (ty : TypeId) (he : P.underlying t = some (.slice e)) (hz : tsz P e = some (g, n))
    (hlen : (Builtin.lenOf x).run P w = .ok m w) (hnew : (Builtin.firstCells n (min m dLen) x).run P w = .ok cn w) (hst : (storeCells a cn.toList).run P w = .ok () w') :
    (Builtin.copy_ #[t, u] ty #[.slice (some a) dLen cap, x]).run P w = .ok (goInt (min m dLen : Nat)) w' := by
  have hnew' : (Builtin.firstCells n (Nat.min m dLen) x).run P w = .ok cn w := hnew
  simp only [Builtin.copy_, List.getElem?_toArray, List.getElem?_cons_zero, List.getElem?_cons_succ, Sem.run_bind, run_underlying he, Result.andThen_ok, run_sizeOf_tsz hz, hlen, hnew', hst, Sem.run_pure]
theorem run_copy_nil {P : Program} {t e u : TypeId} {g : Bool} {n m : Nat} {x : Value} {w : World} {cn : Array Value} (ty : TypeId) (he : P.underlying t = some (.slice e)) (hz : tsz P e = some (g, n))
    (hlen : (Builtin.lenOf x).run P w = .ok m w) (hnew : (Builtin.firstCells n 0 x).run P w = .ok cn w) :
    (Builtin.copy_ #[t, u] ty #[.slice none 0 0, x]).run P w = .ok (goInt 0) w := by
  simp only [Builtin.copy_, List.getElem?_toArray, List.getElem?_cons_zero, List.getElem?_cons_succ, Sem.run_bind, run_underlying he, Result.andThen_ok, run_sizeOf_tsz hz, hlen, Sem.run_pure, Nat.min_zero, hnew]
  rfl

theorem copy_sound {E : Env} {P : Program} {w0 : World} {okb : Nat → Prop} {s : AS} {t u : TypeId} {v c : AV} {x y : Value} {r : Res} (hF : Frm E w0 okb) (hM : MemRel E w0.heap.size s.mem)
    (hx : Rep E v x) (hy : Rep E c y) (h : copyE P s t v c = some r) (ty : TypeId) :
    ∃ y' E', (Builtin.copy_ #[t, u] ty #[x, y]).run P E.w = .ok y' E'.w ∧ Stepped E w0 okb s.mem s.nx r y' E' := by
  unfold copyE at h
  split at h
  · rename_i g n id off len hzz
    obtain ⟨e, hu, hz⟩ := elem_tsz hzz
    split at h
    · rename_i sz xs es rd hg hsrc
      split at h
      · rename_i hc
        obtain ⟨rfl, hol, hn⟩ := hc
        obtain rfl := Option.some.inj h
        obtain ⟨hlen, hes, f2, hf2, hg2⟩ := source_sound (P := P) hM hn hy hsrc
        have hm1 : min es.length len ≤ es.length := Nat.min_le_left _ _
        have hm2 : min es.length len ≤ len := Nat.min_le_right _ _
        rcases hx.own_inv.2 with ⟨hl, rfl, rfl, rfl⟩ | ⟨b', o, z', cap0, hl, rfl, hcap0, c0', t0', fz0, hb0', hroom⟩
        · have hxe : xs = [] := by have := (hM.arr id _ hg).2; simpa only [ArrRel, hl] using this
          subst hxe
          refine ⟨_, E, run_copy_nil ty hu hz (hlen _) (hf2 0 (Nat.zero_le _) E.w rfl), .refl E, fun id => ⟨.inl, fun h => h.elim (fun h => h) (fun h => by simp only at h; omega)⟩, by simp, hF, ?_, ?_⟩
          · refine hM.cons (hM.arr id _ hg).1 ?_ (fun _ id' arr' b o z o' z' hne hg' hm h2 h3 => by rw [hl] at h2; cases h2)
            simp [ArrRel, hl]
          · rw [Nat.min_zero]; exact .pure (.sc _)
        · have hzz := row_loc hM (.inl hg) hl
          subst hzz
          have hr := (hM.arr id _ hg).2
          simp only [ArrRel, hl] at hr
          obtain ⟨c0, t0, hb0, hbase, hnok, hsz, _, hc1⟩ := hr
          generalize hm : min es.length len = m at *
          let cn : List Value := (List.range (m * z')).map f2
          have hcnl : cn.length = m * z' := by simp [cn]
          have hmz : (off + m) * z' ≤ xs.length * z' := Nat.mul_le_mul_right z' (by omega)
          have hroom2 : o + off * z' + cn.length ≤ c0.size := by rw [Nat.add_mul] at hmz; omega
          have hcn1 : ∀ v ∈ cn, v.oneCell' = true := by
            intro v hv
            simp only [cn, List.mem_map, List.mem_range] at hv
            obtain ⟨k, hk, rfl⟩ := hv
            have h1 : k / z' < es.length := Nat.lt_of_lt_of_le (Nat.div_lt_of_lt_mul (by rw [Nat.mul_comm]; exact hk)) hm1
            have hget : es[k / z']? = some es[k / z'] := List.getElem?_eq_getElem h1
            have := (hg2 (k / z') _ (k % z') _ hget (List.getElem?_eq_getElem (by rw [hes _ _ hget]; exact Nat.mod_lt _ hn))).1
            rwa [Nat.div_add_mod'] at this
          have hst := run_storeCells_at (P := P) b' (o + off * z') t0 cn 0 c0 E.w hb0 (by omega) hcn1
          rw [Nat.add_zero] at hst
          let c' := (c0.toList.take (o + off * z') ++ cn ++ c0.toList.drop (o + off * z' + cn.length)).toArray
          have hst2 : (storeCells (⟨b', o + off * z', none⟩ : Addr) ((List.range (m * z')).map f2).toArray.toList).run P E.w = .ok () (E.w.setRow b' c') := hst
          have hrun := run_copy (u := u) (w := E.w) (cap := cap0) ty hu hz (hlen _) (by rw [hm]; exact hf2 m hm1 E.w rfl) hst2
          rw [hm] at hrun
          have hcs : c'.size = c0.size := by simp [c']; omega
          obtain ⟨hle1, hF1, hat, hmem⟩ := set_block hF hM hg rfl hl hb0 hbase hnok hcs
          refine ⟨_, E.set b' c', hrun, hle1, fun id' => ⟨.inl, fun h => h.elim (fun h => h) (fun h => by simp only at h; omega)⟩, by simp, hF1, hmem _ ?_, .pure (.sc _)⟩
          simp only [ArrRel]
          rw [show (E.set b' c').loc id = some (b', o, z') from hl]
          have hxl : (xs.take off ++ es.take m ++ xs.drop (off + m)).length = xs.length := by simp; omega
          refine ⟨c', t0, hat, hbase, hnok, by rw [hxl, hcs]; exact hsz, rfl, ?_⟩
          have hcm : Cells (E.set b' c').w (E.set b' c').ok c0 o z' xs := hc1.mono hle1.ok hle1.blk
          have hcell : ∀ q, c'[q]? = if q < o + off * z' then c0[q]? else if q < o + off * z' + cn.length then cn[q - (o + off * z')]? else c0[q]? := by
            intro q
            have := splice_get (l := c0.toList) (v := cn) (p := o + off * z') (q := q) (by simpa using hroom2)
            simpa [c'] using this
          intro k row hk
          rw [List.append_assoc, List.getElem?_append, List.length_take, Nat.min_eq_left (by omega)] at hk
          split at hk
          · rename_i hlt
            rw [List.getElem?_take, if_pos hlt] at hk
            obtain ⟨q1, q2⟩ := hcm k row hk
            refine ⟨q1, fun j a hj => ?_⟩
            have hjn : j < z' := by rw [← q1]; exact (List.getElem?_eq_some_iff.1 hj).1
            have := idx_lt hlt hjn
            obtain ⟨y', e1, e2⟩ := q2 j a hj
            exact ⟨y', by rw [hcell, if_pos (by omega)]; exact e1, e2⟩
          · rename_i hge
            rw [List.getElem?_append, List.length_take, Nat.min_eq_left hm1] at hk
            split at hk
            · rename_i hlt
              rw [List.getElem?_take, if_pos hlt] at hk
              refine ⟨hes _ row hk, fun j a hj => ?_⟩
              have hjn : j < z' := by rw [← hes _ row hk]; exact (List.getElem?_eq_some_iff.1 hj).1
              have h1 := idx_lt hlt hjn
              have hkk : k * z' = off * z' + (k - off) * z' := by rw [← Nat.add_mul]; congr 1; omega
              obtain ⟨q2, q3⟩ := hg2 _ row j a hk hj
              refine ⟨_, ?_, q2, q3.mono hle1.ok hle1.blk⟩
              rw [hcell, if_neg (by omega), if_pos (by omega), show o + k * z' + j - (o + off * z') = (k - off) * z' + j by omega]
              simp [cn, h1]
            · rename_i hge2
              rw [List.getElem?_drop, show off + m + (k - off - m) = k by omega] at hk
              obtain ⟨q1, q2⟩ := hcm k row hk
              refine ⟨q1, fun j a hj => ?_⟩
              obtain ⟨y', e1, e2⟩ := q2 j a hj
              have : (off + m) * z' ≤ k * z' := Nat.mul_le_mul_right z' (by omega)
              rw [Nat.add_mul] at this
              exact ⟨y', by rw [hcell, if_neg (by omega), if_neg (by omega)]; exact e1, e2⟩
      · exact absurd h (by simp)
    · exact absurd h (by simp)
  · exact absurd h (by simp)

/-- What the machine does at an operation that is no call of a function. -/
def OpRun (P : Program) (o : Oper) (a : Act) (w : World) (x : Value) (w' : World) : Prop :=
  (execOp a.eval o).run P w = .ok (.value x) w' ∨ ((execOp a.eval o).run P w = .ok .skip w' ∧ x = undef)

theorem builtin_sound {E : Env} {P : Program} {w0 : World} {okb : Nat → Prop} {s : AS} {b : Builtin} {ts : List TypeId} {vs : List AV} {l : List Value} {r : Res} (hF : Frm E w0 okb) (hM : MemRel E w0.heap.size s.mem)
    (hl : Reps E vs l) (h : builtinE P s b ts vs = some r) (hid : ∀ id, s.nx ≤ id → id < r.nx → ¬ E.al id) (ty : TypeId) (cs : Array Bool) :
    ∃ y E', (builtin b ts.toArray ty cs l.toArray).run P E.w = .ok (.value y) E'.w ∧ Stepped E w0 okb s.mem s.nx r y E' := by
  unfold builtinE at h
  split at h
  · obtain ⟨x, rfl⟩ : ∃ x, l = [x] := List.length_eq_one_iff.1 hl.1
    obtain ⟨y, hy, hS⟩ := len_sound hF hM (hl.2 0 _ x rfl rfl) h ty
    exact ⟨y, E, by simp [builtin, hy], hS⟩
  · obtain ⟨x, y, rfl⟩ : ∃ x y, l = [x, y] := by
      have := hl.1
      match l, this with
      | [x, y], _ => exact ⟨x, y, rfl⟩
    obtain ⟨z, E', hz, hS⟩ := append_sound hF hM (hl.2 0 _ x rfl rfl) (hl.2 1 _ y rfl rfl) h hid ty
    exact ⟨z, E', by simp [builtin, hz], hS⟩
  · obtain ⟨x, y, rfl⟩ : ∃ x y, l = [x, y] := by
      have := hl.1
      match l, this with
      | [x, y], _ => exact ⟨x, y, rfl⟩
    rename_i t0 u0 _ _
    obtain ⟨z, E', hz, hS⟩ := copy_sound (u := u0) hF hM (hl.2 0 _ x rfl rfl) (hl.2 1 _ y rfl rfl) h ty
    exact ⟨z, E', by simp [builtin, hz], hS⟩
  · rename_i k a rest
    cases hm : minmax true a rest with
    | none => simp [hm] at h
    | some m =>
      simp only [hm, Option.map_some, Option.some.injEq] at h
      subst h
      cases l with
      | nil => have := hl.1; simp at this
      | cons x l =>
        obtain rfl := (hl.2 0 _ x rfl rfl).sc_inv
        have hr : Reps E rest l := drop_reps hl 1
        have := minmax_sound (P := P) true k hm hr E.w
        simp only [if_true] at this
        exact ⟨_, E, by simp [builtin, Builtin.max_, this], .same hF hM (.pure (.sc _))⟩
  · rename_i k a rest
    cases hm : minmax false a rest with
    | none => simp [hm] at h
    | some m =>
      simp only [hm, Option.map_some, Option.some.injEq] at h
      subst h
      cases l with
      | nil => have := hl.1; simp at this
      | cons x l =>
        obtain rfl := (hl.2 0 _ x rfl rfl).sc_inv
        have hr : Reps E rest l := drop_reps hl 1
        have := minmax_sound (P := P) false k hm hr E.w
        simp only [Bool.false_eq_true, if_false] at this
        exact ⟨_, E, by simp [builtin, Builtin.min_, this], .same hF hM (.pure (.sc _))⟩
  · exact absurd h (by simp)

theorem ev_sound {E : Env} {P : Program} {w0 : World} {okb : Nat → Prop} {s : AS} {o : Oper} {a : Act} {r : Res} (hF : Frm E w0 okb) (hM : MemRel E w0.heap.size s.mem) (hT : TmOk E s a)
    (h : ev P o s = some r) (hid : ∀ id, s.nx ≤ id → id < r.nx → ¬ E.al id) : ∃ x E', OpRun P o a E.w x E'.w ∧ Stepped E w0 okb s.mem s.nx r x E' := by
  obtain ⟨dst, op, type, pos, after, guard⟩ := o
  unfold ev at h
  simp only at h
  split at h
  · rename_i x
    split at h
    · rename_i v hv
      obtain rfl := Option.some.inj h
      exact ⟨_, E, .inl rfl, .same hF hM (opr_sound hT hv)⟩
    · exact absurd h (by simp)
  · rename_i x
    split at h
    · rename_i v hv
      obtain rfl := Option.some.inj h
      exact ⟨_, E, .inl rfl, .same hF hM (opr_sound hT hv)⟩
    · exact absurd h (by simp)
  · rename_i c x y
    split at h
    · rename_i t hc
      have hcv := (opr_sound hT hc).sc_inv
      split at h
      · rename_i v hv
        obtain rfl := Option.some.inj h
        cases t with
        | true => simp only [if_true] at hv; exact ⟨a.eval x, E, .inl (by simp [execOp, hcv, asBool]), .same hF hM (opr_sound hT hv)⟩
        | false => simp only [Bool.false_eq_true, if_false] at hv; exact ⟨a.eval y, E, .inl (by simp [execOp, hcv, asBool]), .same hF hM (opr_sound hT hv)⟩
      · exact absurd h (by simp)
    · exact absurd h (by simp)
  · rename_i t
    obtain ⟨y, E', hy, hS⟩ := alloc_sound hF hM h hid
    exact ⟨y, E', .inl (by simp [execOp, hy]), hS⟩
  · rename_i t x
    split at h
    · rename_i v hv
      obtain ⟨y, E', hy, hS⟩ := boxE_sound (t := t) (P := P) hF hM (opr_sound hT hv) h hid
      exact ⟨y, E', .inl (by simp [execOp, hy]), hS⟩
    · exact absurd h (by simp)
  · rename_i t ps
    split at h
    · rename_i vs hvs
      obtain ⟨h1, h2⟩ := oprs2_sound hT hvs
      obtain ⟨y, hy, hS⟩ := build_sound (pv := ps.map fun p => (p.1, a.eval p.2)) hF hM (by simpa using h1) (by simpa using h2) h
      exact ⟨y, E, .inl (by simp [execOp, hy]), hS⟩
    · exact absurd h (by simp)
  · rename_i t n ps
    split at h
    · rename_i vs hvs
      obtain ⟨h1, h2⟩ := oprs2_sound hT hvs
      obtain ⟨y, E', hy, hS⟩ := buildSlice_sound (pv := ps.map fun p => (p.1, a.eval p.2)) hF hM (by simpa using h1) (by simpa using h2) h hid
      exact ⟨y, E', .inl (by simp [execOp, hy]), hS⟩
    · exact absurd h (by simp)
  · rename_i t p
    split at h
    · rename_i v hv
      obtain ⟨y, hy, hS⟩ := load_sound hF hM (opr_sound hT hv) h
      exact ⟨y, E, .inl (by simp [execOp, hy]), hS⟩
    · exact absurd h (by simp)
  · rename_i t p x
    split at h
    · rename_i p' v hp hv
      obtain ⟨E', hy, hS⟩ := store_sound hF hM (opr_sound hT hp) (opr_sound hT hv) h
      exact ⟨undef, E', .inr ⟨by simp [execOp, hy], rfl⟩, hS⟩
    · exact absurd h (by simp)
  · rename_i x
    split at h
    · rename_i id i j hv
      obtain rfl := Option.some.inj h
      have hr := opr_sound hT hv
      obtain ⟨ha, b, o, z, hl, he⟩ := hr.ptr_inv
      exact ⟨a.eval x, E, .inl (by simp [execOp, he]), .same hF hM hr⟩
    · rename_i cs hv
      obtain rfl := Option.some.inj h
      have hr := opr_sound hT hv
      obtain ⟨b, o, he, _⟩ := hr.ref_inv
      exact ⟨a.eval x, E, .inl (by simp [execOp, he]), .same hF hM hr⟩
    · rename_i f p q hv
      obtain rfl := Option.some.inj h
      have hr := opr_sound hT hv
      obtain ⟨fv, cv, he, _⟩ := hr.fn_inv
      exact ⟨a.eval x, E, .inl (by simp [execOp, he]), .same hF hM hr⟩
    · exact absurd h (by simp)
  · rename_i op t x y u
    split at h
    · rename_i p q hp hq
      split at h
      · rename_i v hv
        obtain rfl := Option.some.inj h
        obtain ⟨z, hz, hR⟩ := bin_sound (P := P) hv (opr_sound hT hp) (opr_sound hT hq) x y E.w
        exact ⟨z, E, .inl (by simp only [execOp]; rw [Sem.run_bind, hz]; rfl), .same hF hM hR⟩
      · exact absurd h (by simp)
    · exact absurd h (by simp)
  · rename_i op t x
    split at h
    · rename_i p hp
      split at h
      · rename_i v hv
        obtain rfl := Option.some.inj h
        obtain ⟨z, hz, hR⟩ := un_sound (P := P) hv (opr_sound hT hp) E.w
        exact ⟨z, E, .inl (by simp [execOp, hz]), .same hF hM hR⟩
      · exact absurd h (by simp)
    · exact absurd h (by simp)
  · rename_i t u x
    split at h
    · rename_i v hv
      obtain ⟨y, hy, hS⟩ := conv_sound hF hM (opr_sound hT hv) h
      exact ⟨y, E, .inl (by simp [execOp, hy]), hS⟩
    · exact absurd h (by simp)
  · rename_i f x y
    split at h
    · rename_i p q hp hq
      obtain rfl := Option.some.inj h
      have h1 := oprs_sound hT hp
      have h2 := oprs_sound hT hq
      refine ⟨.func (.func f) (x.map a.eval) (y.map a.eval), E, .inl (by simp [execOp, Instr.makeFunc]), .same hF hM ?_⟩
      have := Rep.fn (E := E) f p q _ _ h1.1 h2.1 h1.2 h2.2
      rwa [show (x.toList.map a.eval).toArray = x.map a.eval from Array.ext' (by simp), show (y.toList.map a.eval).toArray = y.map a.eval from Array.ext' (by simp)] at this
    · exact absurd h (by simp)
  · rename_i t l c
    split at h
    · rename_i p q hp hq
      obtain ⟨y, E', hy, hS⟩ := makeSlice_sound hF hM (opr_sound hT hp) (opr_sound hT hq) h hid
      exact ⟨y, E', .inl (by simp [execOp, hy]), hS⟩
    · exact absurd h (by simp)
  · rename_i t x
    split at h
    · rename_i v hv
      obtain ⟨y, hy, hS⟩ := slice_sound (lo := none) (hi := none) (vlo := none) (vhi := none) hF hM (opr_sound hT hv) trivial trivial h
      exact ⟨y, E, .inl (by simp [execOp, hy]), hS⟩
    · exact absurd h (by simp)
  · rename_i t x l
    split at h
    · rename_i v p hv hp
      obtain ⟨y, hy, hS⟩ := slice_sound (lo := some p) (hi := none) (vlo := some (a.eval l)) (vhi := none) hF hM (opr_sound hT hv) (opr_sound hT hp) trivial h
      exact ⟨y, E, .inl (by simp [execOp, hy]), hS⟩
    · exact absurd h (by simp)
  · rename_i t x q
    split at h
    · rename_i v p hv hp
      obtain ⟨y, hy, hS⟩ := slice_sound (lo := none) (hi := some p) (vlo := none) (vhi := some (a.eval q)) hF hM (opr_sound hT hv) trivial (opr_sound hT hp) h
      exact ⟨y, E, .inl (by simp [execOp, hy]), hS⟩
    · exact absurd h (by simp)
  · rename_i t x l q
    split at h
    · rename_i v p p' hv hp hp'
      obtain ⟨y, hy, hS⟩ := slice_sound (lo := some p) (hi := some p') (vlo := some (a.eval l)) (vhi := some (a.eval q)) hF hM (opr_sound hT hv) (opr_sound hT hp) (opr_sound hT hp') h
      exact ⟨y, E, .inl (by simp [execOp, hy]), hS⟩
    · exact absurd h (by simp)
  · rename_i t x f
    split at h
    · rename_i v hv
      obtain ⟨y, hy, hS⟩ := fieldAddr_sound hF hM (opr_sound hT hv) h
      exact ⟨y, E, .inl (by simp [execOp, hy]), hS⟩
    · exact absurd h (by simp)
  · rename_i t x f
    split at h
    · rename_i v hv
      obtain ⟨y, hy, hS⟩ := field_sound hF hM (opr_sound hT hv) h
      exact ⟨y, E, .inl (by simp [execOp, hy]), hS⟩
    · exact absurd h (by simp)
  · rename_i t x i
    split at h
    · rename_i v p hv hp
      obtain ⟨y, hy, hS⟩ := indexAddr_sound hF hM (opr_sound hT hv) (opr_sound hT hp) h
      exact ⟨y, E, .inl (by simp [execOp, hy]), hS⟩
    · exact absurd h (by simp)
  · rename_i t x i
    split at h
    · rename_i v p hv hp
      obtain ⟨y, hy, hS⟩ := index_sound hF hM (opr_sound hT hv) (opr_sound hT hp) h
      exact ⟨y, E, .inl (by simp [execOp, hy]), hS⟩
    · exact absurd h (by simp)
  · rename_i x i
    split at h
    · rename_i vs hv
      split at h
      · rename_i v hvi
        obtain rfl := Option.some.inj h
        obtain ⟨cv, he, hr⟩ := (opr_sound hT hv).tup_inv
        obtain ⟨y, hy⟩ : ∃ y, cv[i]? = some y := ⟨_, List.getElem?_eq_getElem (by have := (List.getElem?_eq_some_iff.1 hvi).1; rw [hr.1]; exact this)⟩
        exact ⟨y, E, .inl (by simp [execOp, he, Instr.extract, hy]), .same hF hM (hr.2 i v y hvi hy)⟩
      · exact absurd h (by simp)
    · exact absurd h (by simp)
  · rename_i c
    split at h
    · rename_i b hb
      split at h
      · rename_i vs hvs
        have hr := oprs_sound hT hvs
        obtain ⟨y, E', hy, hS⟩ := builtin_sound hF hM hr h hid type (c.args.map fun | .const _ => true | _ => false)
        refine ⟨y, E', .inl ?_, hS⟩
        simp only [execOp, resolve, hb, Sem.run_bind, Sem.run_pure, Result.andThen_ok, invoke]
        have e : (c.args.map a.eval) = (c.args.toList.map a.eval).toArray := Array.ext' (by simp)
        rw [e]
        exact hy
      · exact absurd h (by simp)
    · exact absurd h (by simp)
  · exact absurd h (by simp)
end Go.Ab
