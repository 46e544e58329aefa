/- The abstract interpreter: slices of slices. -/
import Derived.Test.YtmdeiagmlabfmaaDoorAb13
set_option linter.unusedVariables false
set_option linter.unusedSimpArgs false
set_option linter.unusedSectionVars false

section
namespace Go.Ab
open Go.RowKit (Below)

def OptRep (E : Env) : Option AV → Option Value → Prop
  | none, none => True
  | some a, some v => Rep E a v
  | _, _ => False

theorem bound_inv {E : Env} {d : Nat} {lo : Option AV} {v : Option Value} {l : Int} (h : bound d lo = some l) (hr : OptRep E lo v) : (v = none ∧ l = d) ∨ ∃ k, v = some (.int k l) := by
  unfold bound at h
  split at h
  · cases v with
    | none => exact .inl ⟨rfl, (Option.some.inj h).symm⟩
    | some _ => cases hr
  · cases v with
    | none => cases hr
    | some u => obtain rfl := Rep.sc_inv hr; obtain rfl := Option.some.inj h; exact .inr ⟨_, rfl⟩
  · exact absurd h (by simp)

theorem run_sliceBounds {E : Env} {P : Program} {isSlice : Bool} {len cap : Nat} {lo hi : Option AV} {vlo vhi : Option Value} {l h : Int} (hl : bound 0 lo = some l) (hh : bound len hi = some h)
    (rl : OptRep E lo vlo) (rh : OptRep E hi vhi) (h0 : 0 ≤ l) (h1 : l ≤ h) (h2 : h ≤ len) (h3 : len ≤ cap) (w : World) :
    (Instr.sliceBounds isSlice len cap vlo vhi none).run P w = .ok (l.toNat, h.toNat, cap) w := by
  have e1 : (h.toNat : Int) = h := Int.toNat_of_nonneg (by omega)
  rcases bound_inv hh rh with ⟨rfl, rfl⟩ | ⟨k, rfl⟩
  · rcases bound_inv hl rl with ⟨rfl, rfl⟩ | ⟨k', rfl⟩
    · simp [Instr.sliceBounds]
    · have : 0 ≤ l ∧ l ≤ (len : Int) := ⟨h0, h1⟩
      simp [Instr.sliceBounds, Instr.sliceBound, asIntOf, this]
  · have c1 : 0 ≤ h ∧ h ≤ (cap : Int) := ⟨by omega, by omega⟩
    rcases bound_inv hl rl with ⟨rfl, rfl⟩ | ⟨k', rfl⟩
    · simp [Instr.sliceBounds, Instr.sliceBound, asIntOf, c1]
    · have : 0 ≤ l ∧ l ≤ (h.toNat : Int) := ⟨h0, by omega⟩
      simp only [Instr.sliceBounds, Instr.sliceBound, asIntOf, Sem.run_bind, Sem.run_pure, Result.andThen_ok, c1, and_self, if_true, Sem.run_ite, this]

theorem slice_sound {E : Env} {P : Program} {w0 : World} {okb : Nat → Prop} {s : AS} {t : TypeId} {v : AV} {x : Value} {lo hi : Option AV} {vlo vhi : Option Value} {r : Res} (hF : Frm E w0 okb) (hM : MemRel E w0.heap.size s.mem)
    (hx : Rep E v x) (rl : OptRep E lo vlo) (rh : OptRep E hi vhi) (h : sliceE P s t v lo hi = some r) : ∃ y, (Instr.sliceAt t x vlo vhi none).run P E.w = .ok y E.w ∧ Stepped E w0 okb s.mem s.nx r y E := by
  unfold sliceE at h
  split at h
  · rename_i b
    obtain rfl := hx.sc_inv
    split at h
    · rename_i l h' ht hl hh
      split at h
      · rename_i hc
        obtain rfl := Option.some.inj h
        have hb := run_sliceBounds (P := P) (isSlice := false) (cap := b.size) hl hh rl rh hc.1 hc.2.1 hc.2.2 (Nat.le_refl _) E.w
        exact ⟨_, by simp [Instr.sliceAt, Instr.slice, run_underlying (tstr_inv ht), hb], .same hF hM (.pure (.sc _))⟩
      · exact absurd h (by simp)
    · exact absurd h (by simp)
  · rename_i sz xs
    split at h
    · rename_i g n l h' hz hl hh
      obtain ⟨e, hu, hz⟩ := elem_tsz hz
      split at h
      · rename_i hc
        obtain ⟨h0, h1, h2, rfl⟩ := hc
        obtain rfl := Option.some.inj h
        rcases hx.sl_inv with ⟨rfl, rfl | ⟨a, cap, rfl⟩⟩ | ⟨b, o, cap, rfl, hk, hcap, hsz, hcell⟩
        · have hb := run_sliceBounds (P := P) (isSlice := true) (cap := 0) hl hh rl rh h0 h1 h2 (Nat.le_refl _) E.w
          simp only [List.length_nil] at h2
          obtain rfl : h' = 0 := by omega
          obtain rfl : l = 0 := by omega
          refine ⟨.slice none 0 0, ?_, .same hF hM ?_⟩
          · simp only [List.length_nil] at hb
            simp [Instr.sliceAt, Instr.slice, run_underlying hu, hb, run_sizeOf_tsz hz]
          · simpa using Rep.pure (E := E) (.slNil n)
        · simp only [List.length_nil] at h2 hh
          have hb := run_sliceBounds (P := P) (isSlice := true) (cap := cap) hl hh rl rh h0 h1 h2 (Nat.zero_le _) E.w
          obtain rfl : h' = 0 := by omega
          obtain rfl : l = 0 := by omega
          refine ⟨.slice (some (if cap = 0 then a else a.add 0)) 0 cap, ?_, .same hF hM ?_⟩
          · by_cases hc0 : cap = 0
            · subst hc0; simp [Instr.sliceAt, Instr.slice, run_underlying hu, hb, run_sizeOf_tsz hz]
            · simp [Instr.sliceAt, Instr.slice, run_underlying hu, hb, run_sizeOf_tsz hz, hc0]
          · simpa using Rep.pure (E := E) (.slEmp n _ cap)
        · have hb := run_sliceBounds (P := P) (isSlice := true) (cap := cap) hl hh rl rh h0 h1 h2 hcap E.w
          have hll : ((xs.take h'.toNat).drop l.toNat).length = h'.toNat - l.toNat := by simp; omega
          have hrun : (Instr.sliceAt t (.slice (some ⟨b, o, none⟩) xs.length cap) vlo vhi none).run P E.w = .ok (.slice (some ⟨b, if cap = l.toNat then o else o + l.toNat * n, none⟩) (h'.toNat - l.toNat) (cap - l.toNat)) E.w := by
            by_cases hcl : cap = l.toNat
            · rw [hcl] at hb
              simp [Instr.sliceAt, Instr.slice, run_underlying hu, hb, run_sizeOf_tsz hz, hcl]
            · simp [Instr.sliceAt, Instr.slice, run_underlying hu, hb, run_sizeOf_tsz hz, hcl, addr_add]
          refine ⟨_, hrun, .same hF hM (.pure ?_)⟩
          have hget : ∀ (i : Nat) (cs : List AV), ((xs.take h'.toNat).drop l.toNat)[i]? = some cs → xs[l.toNat + i]? = some cs := by
            intro i cs hi
            rw [List.getElem?_drop, List.getElem?_take] at hi
            split at hi
            · exact hi
            · exact absurd hi (by simp)
          by_cases hcl : cap = l.toNat
          · have hnil : (xs.take h'.toNat).drop l.toNat = [] := by apply List.length_eq_zero_iff.1; omega
            have e1 : h'.toNat - l.toNat = 0 := by omega
            rw [if_pos hcl, hnil, e1]
            exact .sl n [] b o _ (fun _ _ => undef) hk (by simp) (by simp) (by simp) (by simp) (by simp)
          · rw [if_neg hcl, ← hll]
            have hcs : ∀ (i : Nat) (cs : List AV) (j : Nat) (c : AV), ((xs.take h'.toNat).drop l.toNat)[i]? = some cs → cs[j]? = some c → ∃ y, E.w.cell? ⟨b, o + l.toNat * n + i * n + j, none⟩ = some y ∧ y.oneCell' = true ∧ RepP E.w E.ok c y := by
              intro i cs j c hi hj
              have := hcell (l.toNat + i) cs j c (hget i cs hi) hj
              rwa [Nat.add_mul, ← Nat.add_assoc] at this
            exact .sl n _ b _ _ (fun i j => (E.w.cell? ⟨b, o + l.toNat * n + i * n + j, none⟩).getD undef) hk (by omega) (fun i cs hi => hsz _ cs (hget i cs hi))
              (fun i cs j c hi hj => by obtain ⟨y, q1, q2, q3⟩ := hcs i cs j c hi hj; simp [q1])
              (fun i cs j c hi hj => by obtain ⟨y, q1, q2, q3⟩ := hcs i cs j c hi hj; simpa [q1] using q2)
              (fun i cs j c hi hj => by obtain ⟨y, q1, q2, q3⟩ := hcs i cs j c hi hj; simpa [q1] using q3)
      · exact absurd h (by simp)
    · exact absurd h (by simp)
  · rename_i id off len
    have main : ∀ (g : Bool) (n : Nat) (l h' : Int) (sz : Nat) (xs : List (List AV)), (telem P t).bind (tsz P) = some (g, n) → bound 0 lo = some l → bound len hi = some h' →
        get s.mem id = some (.row sz xs) ∨ get s.mem id = some (.frz sz xs) → 0 ≤ l ∧ l ≤ h' ∧ h' ≤ len ∧ n = sz ∧ 0 < xs.length ∧ (l = 0 ∨ l < len) →
        ∃ y, (Instr.sliceAt t x vlo vhi none).run P E.w = .ok y E.w ∧ Stepped E w0 okb s.mem s.nx ⟨.own id (off + l.toNat) (h' - l).toNat, [], s.nx, [id]⟩ y E := by
      rintro g n l h' sz xs hz hl hh hg ⟨h0, h1, h2, rfl, hxl, hor⟩
      obtain ⟨e, hu, hz⟩ := elem_tsz hz
      obtain ⟨ha, hcase⟩ := hx.own_inv
      rcases hcase with ⟨hloc, rfl, rfl, rfl⟩ | ⟨b, o, z, cap, hloc, rfl, hcap, c, ty, f, hb, hsize⟩
      · have hb := run_sliceBounds (P := P) (isSlice := true) (cap := 0) hl hh rl rh h0 h1 h2 (Nat.le_refl _) E.w
        obtain rfl : h' = 0 := by omega
        obtain rfl : l = 0 := by omega
        refine ⟨.slice none 0 0, ?_, .same hF hM ?_⟩
        · simp [Instr.sliceAt, Instr.slice, run_underlying hu, hb, run_sizeOf_tsz hz]
        · simpa using Rep.ownNil (E := E) id ha hloc
      · have hzz := row_loc hM hg hloc
        subst hzz
        have hbnd := run_sliceBounds (P := P) (isSlice := true) (cap := cap) hl hh rl rh h0 h1 h2 hcap E.w
        have e1 : (h' - l).toNat = h'.toNat - l.toNat := by omega
        have hrun : (Instr.sliceAt t (.slice (some ⟨b, o + off * z, none⟩) len cap) vlo vhi none).run P E.w = .ok (.slice (some ⟨b, o + (off + l.toNat) * z, none⟩) (h' - l).toNat (cap - l.toNat)) E.w := by
          rw [e1]
          by_cases hcl : cap = l.toNat
          · have hl0 : l.toNat = 0 := by omega
            rw [hcl, hl0] at hbnd
            simp [Instr.sliceAt, Instr.slice, run_underlying hu, hbnd, run_sizeOf_tsz hz, hcl, hl0]
          · simp [Instr.sliceAt, Instr.slice, run_underlying hu, hbnd, run_sizeOf_tsz hz, hcl, addr_add, Nat.add_mul, Nat.add_assoc]
        refine ⟨_, hrun, .same hF hM ?_⟩
        exact .own id (off + l.toNat) _ b o z _ ha hloc (by omega) ⟨c, ty, f, hb, by rw [show off + l.toNat + (cap - l.toNat) = off + cap by omega]; exact hsize⟩
    split at h
    · rename_i g n l h' sz xs hz hl hh hg
      split at h
      · rename_i hc; obtain rfl := Option.some.inj h; exact main g n l h' sz xs hz hl hh (.inl hg) hc
      · exact absurd h (by simp)
    · rename_i g n l h' sz xs hz hl hh hg
      split at h
      · rename_i hc; obtain rfl := Option.some.inj h; exact main g n l h' sz xs hz hl hh (.inr hg) hc
      · exact absurd h (by simp)
    · exact absurd h (by simp)
  · exact absurd h (by simp)

theorem minmax_sound {E : Env} {P : Program} (isMax : Bool) (k : IntKind) : ∀ {xs : List AV} {cv : List Value} {a m : Int}, minmax isMax a xs = some m → Reps E xs cv → ∀ w,
    (cv.foldlM (if isMax then Builtin.max2 else Builtin.min2) (.int k a)).run P w = .ok (.int k m) w
  | [], cv, a, m, h, hr, w => by
    obtain rfl : cv = [] := by simpa using hr.1
    obtain rfl := Option.some.inj h
    simp
  | x :: xs, cv, a, m, h, hr, w => by
    cases cv with
    | nil => have := hr.1; simp at this
    | cons u cv =>
      cases x with
      | sc v =>
        cases v with
        | int k' b =>
          obtain rfl := (hr.2 0 _ u rfl rfl).sc_inv
          simp only [minmax] at h
          have hr' : Reps E xs cv := drop_reps hr 1
          have ih := minmax_sound (P := P) isMax k h hr' w
          simp only [List.foldlM_cons, Sem.run_bind]
          cases isMax <;> simpa [Builtin.max2, Builtin.min2] using ih
        | _ => simp only [minmax] at h; exact absurd h (by simp)
      | _ => simp only [minmax] at h; exact absurd h (by simp)
end Go.Ab
end

section
namespace Go.Ab
open Go.RowKit (Below)

theorem tnoint_inv {P : Program} {u : TypeId} (h : tnoint P u = true) : ∃ d, P.underlying u = some d ∧ ∀ k, d ≠ .int k := by
  unfold tnoint at h
  split at h
  · exact absurd h (by simp)
  · rename_i d hd hne
    exact ⟨d, hne, fun k e => hd k e⟩
  · exact absurd h (by simp)

theorem run_zeros {P : Program} {u : TypeId} (h : tnoint P u = true) (w : World) : ∃ d, (underlying u).run P w = .ok d w ∧ (match d with | .int _ => true | _ => false) = false := by
  obtain ⟨d, hd, hne⟩ := tnoint_inv h
  refine ⟨d, run_underlying hd w, ?_⟩
  cases d <;> first | rfl | (exact absurd rfl (hne _))

section
variable {P : Program} {t u e : TypeId} {g : Bool} {n b : Nat} {i : TypeInfo} {v : Value} {base : Option Addr} {sLen sCap m : Nat} {x : Value} {w : World} {co cn : Array Value} (ty : TypeId)

theorem run_append_grow (he : P.underlying t = some (.slice e)) (hu : tnoint P u = true) (hz : tsz P e = some (g, n)) (hi : P.info? e = some i) (hzv : i.zero = some v) (hb : 0 < i.bytes)
    (hlen : ∀ w, (Builtin.lenOf x).run P w = .ok m w) (hneed : sCap < sLen + m) (hlim : (sLen + m) * i.bytes ≤ 140737488355328)
    (hold : ∀ w' : World, w'.heap = w.heap → (Builtin.firstCells n sLen (.slice base sLen sCap)).run P w' = .ok co w') (hnew : ∀ w' : World, w'.heap = w.heap → (Builtin.firstCells n m x).run P w' = .ok cn w') :
    ∃ cap, sLen + m ≤ cap ∧ (Builtin.append_ #[t, u] ty #[.slice base sLen sCap, x]).run P w =
      .ok (.slice (some ⟨w.heap.size, 0, none⟩) (sLen + m) cap) (w.drew.alloc (.cells (co ++ cn ++ Builtin.zeroCells v.cells (cap - (sLen + m))) e)) := by
  obtain ⟨d, hd, hdi⟩ := run_zeros hu w
  have h1 : ¬ (sLen + m ≤ sCap) := by omega
  have hle : sLen + m ≤ (sLen + m) * i.bytes := Nat.le_mul_of_pos_right _ hb
  have h2 : ¬ (((sLen + m : Nat) : Int) > IntKind.i64.max ∧ i.bytes = 0) := by omega
  have h3 : ¬ (Builtin.nextslicecap (sLen + m) sCap * i.bytes > 281474976710656) := by have := growslice_fits hneed hlim; omega
  have hti : ∀ w, (typeInfo e).run P w = .ok i w := fun w => by simp [typeInfo, hi]
  have hzr : ∀ w, (zeroValue e).run P w = .ok v w := fun w => by simp [zeroValue, hti, hzv]
  have hq : (Question.appendCap (sLen + m) sCap e).forced = false := rfl
  refine ⟨(Question.appendCap (sLen + m) sCap e).cut (w.tape w.drawn (.appendCap (sLen + m) sCap e)), Nat.le_add_right _ _, ?_⟩
  generalize hcap : (Question.appendCap (sLen + m) sCap e).cut (w.tape w.drawn (.appendCap (sLen + m) sCap e)) = cap
  have ho := hold w.drew rfl
  have hn := hnew w.drew rfl
  cases d with
  | int k => exact absurd hdi (by simp)
  | _ =>
    simp only [Builtin.append_, List.getElem?_toArray, List.getElem?_cons_zero, List.getElem?_cons_succ, Sem.run_bind, run_underlying he, Result.andThen_ok, run_sizeOf_tsz hz, hd, Sem.run_pure, Bool.false_eq_true, if_false, hlen, h1, hti, false_or, h2, Sem.run_ite, Nat.reducePow, h3,
      run_choose, hq, run_askRoom, hcap, newRow, run_newObj, Bool.not_false, if_true]
    show (((Builtin.firstCells n sLen (.slice base sLen sCap)).run P w.drew).andThen _) = _
    simp only [ho, hn, Result.andThen_ok, hzr]
    rfl

theorem run_append_fit (he : P.underlying t = some (.slice e)) (hu : tnoint P u = true) (hz : tsz P e = some (g, n)) (hlen : ∀ w, (Builtin.lenOf x).run P w = .ok m w) (hneed : sLen + m ≤ sCap)
    (hnew : (Builtin.firstCells n m x).run P w = .ok cn w) {a : Addr} {w' : World} (hst : (storeCells (a.add (sLen * n)) cn.toList).run P w = .ok () w') :
    (Builtin.append_ #[t, u] ty #[.slice (some a) sLen sCap, x]).run P w = .ok (.slice (some a) (sLen + m) sCap) w' := by
  obtain ⟨d, hd, hdi⟩ := run_zeros hu w
  cases d with
  | int k => exact absurd hdi (by simp)
  | _ =>
    simp only [Builtin.append_, List.getElem?_toArray, List.getElem?_cons_zero, List.getElem?_cons_succ, Sem.run_bind, run_underlying he, Result.andThen_ok, run_sizeOf_tsz hz, hd, Sem.run_pure, Bool.false_eq_true, if_false, hlen, hneed, Sem.run_ite, if_true, hnew, hst, Bool.not_false]

theorem run_append_nil (he : P.underlying t = some (.slice e)) (hu : tnoint P u = true) (hz : tsz P e = some (g, n)) (hlen : ∀ w, (Builtin.lenOf x).run P w = .ok 0 w)
    (hnew : (Builtin.firstCells n 0 x).run P w = .ok cn w) : (Builtin.append_ #[t, u] ty #[.slice none 0 0, x]).run P w = .ok (.slice none 0 0) w := by
  obtain ⟨d, hd, hdi⟩ := run_zeros hu w
  cases d with
  | int k => exact absurd hdi (by simp)
  | _ =>
    simp only [Builtin.append_, List.getElem?_toArray, List.getElem?_cons_zero, List.getElem?_cons_succ, Sem.run_bind, run_underlying he, Result.andThen_ok, run_sizeOf_tsz hz, hd, Sem.run_pure, Bool.false_eq_true, if_false, hlen, Nat.add_zero, Nat.le_refl, Sem.run_ite, if_true, hnew, Bool.not_false]
end

theorem cell_heap {w w' : World} (h : w'.heap = w.heap) (a : Addr) : w'.cell? a = w.cell? a := by simp only [World.cell?, h]

/-- What an append or a copy reads. -/
theorem cells_read {E : Env} {P : Program} {n : Nat} {es : List (List AV)} {b o : Nat} (hn : 0 < n) (hz : ∀ (i : Nat) (cs : List AV), es[i]? = some cs → cs.length = n)
    (hc : ∀ (i : Nat) (cs : List AV) (j : Nat) (a : AV), es[i]? = some cs → cs[j]? = some a → ∃ y, E.w.cell? ⟨b, o + i * n + j, none⟩ = some y ∧ y.oneCell' = true ∧ RepP E.w E.ok a y) :
    ∃ f : Nat → Value, (∀ m, m ≤ es.length → ∀ w' : World, w'.heap = E.w.heap → (loadCells ⟨b, o, none⟩ (m * n)).run P w' = .ok ((List.range (m * n)).map f).toArray w') ∧
      ∀ (i : Nat) (cs : List AV) (j : Nat) (a : AV), es[i]? = some cs → cs[j]? = some a → (f (i * n + j)).oneCell' = true ∧ RepP E.w E.ok a (f (i * n + j)) := by
  refine ⟨fun k => (E.w.cell? ⟨b, o + k, none⟩).getD undef, fun m hm w' hw => ?_, fun i cs j a hi hj => ?_⟩
  · refine run_loadCells w' _ _ _ fun k hk => ?_
    rw [addr_add, cell_heap hw]
    have h1 : k / n < m := Nat.div_lt_of_lt_mul (by rw [Nat.mul_comm]; exact hk)
    have h2 : k % n < n := Nat.mod_lt _ hn
    have hget : es[k / n]? = some es[k / n] := List.getElem?_eq_getElem (by omega)
    have hl := hz _ _ hget
    obtain ⟨y, hy, _⟩ := hc _ _ (k % n) _ hget (List.getElem?_eq_getElem (by omega))
    have e : o + k / n * n + k % n = o + k := by rw [Nat.add_assoc, Nat.div_add_mod']
    rw [e] at hy
    simp [hy]
  · obtain ⟨y, h1, h2, h3⟩ := hc i cs j a hi hj
    simp only [← Nat.add_assoc, h1, Option.getD_some]
    exact ⟨h2, h3⟩

theorem row_cells {E : Env} {base : Nat} {mem : List (Nat × Arr)} (hM : MemRel E base mem) {id off len sz : Nat} {xs : List (List AV)} (hg : get mem id = some (.row sz xs) ∨ get mem id = some (.frz sz xs)) {b o z : Nat} (hl : E.loc id = some (b, o, z)) :
    (∀ (i : Nat) (cs : List AV), ((xs.drop off).take len)[i]? = some cs → cs.length = sz) ∧ ∀ (i : Nat) (cs : List AV) (j : Nat) (a : AV), ((xs.drop off).take len)[i]? = some cs → cs[j]? = some a →
      ∃ y, E.w.cell? ⟨b, o + off * sz + i * sz + j, none⟩ = some y ∧ y.oneCell' = true ∧ RepP E.w E.ok a y := by
  have hget : ∀ (i : Nat) (cs : List AV), ((xs.drop off).take len)[i]? = some cs → xs[off + i]? = some cs := by
    intro i cs h
    rw [List.getElem?_take] at h
    split at h
    · rwa [List.getElem?_drop] at h
    · exact absurd h (by simp)
  have main : ∀ (c : Array Value) (t : TypeId), E.w.heap[b]? = some (.cells c t (0, 0)) → Cells E.w E.ok c o sz xs → (∀ (i : Nat) (cs : List AV), ((xs.drop off).take len)[i]? = some cs → cs.length = sz) ∧ ∀ (i : Nat) (cs : List AV) (j : Nat) (a : AV), ((xs.drop off).take len)[i]? = some cs → cs[j]? = some a →
      ∃ y, E.w.cell? ⟨b, o + off * sz + i * sz + j, none⟩ = some y ∧ y.oneCell' = true ∧ RepP E.w E.ok a y := by
    intro c t hb hc
    refine ⟨fun i cs hi => (hc _ cs (hget i cs hi)).1, fun i cs j a hi hj => ?_⟩
    obtain ⟨y, h1, h2⟩ := (hc _ cs (hget i cs hi)).2 j a hj
    refine ⟨y, ?_, h2⟩
    rw [cell_at hb, ← h1, Nat.add_mul, ← Nat.add_assoc]
  rcases hg with hg | hg
  · have hr := (hM.arr id _ hg).2
    simp only [ArrRel, hl] at hr
    obtain ⟨c, t, hb, _, _, _, _, hc⟩ := hr
    exact main c t hb hc
  · have hr := (hM.arr id _ hg).2
    simp only [ArrRel, hl] at hr
    obtain ⟨c, t, hb, _, _, _, _, hc⟩ := hr
    exact main c t hb hc

theorem source_sound {E : Env} {P : Program} {base : Nat} {s : AS} {n : Nat} {y : AV} {x : Value} {es : List (List AV)} {rd : List Nat} (hM : MemRel E base s.mem) (hn : 0 < n) (hy : Rep E y x) (h : source s n y = some (es, rd)) :
    (∀ w, (Builtin.lenOf x).run P w = .ok es.length w) ∧ (∀ (i : Nat) (cs : List AV), es[i]? = some cs → cs.length = n) ∧
    ∃ f : Nat → Value, (∀ m, m ≤ es.length → ∀ w' : World, w'.heap = E.w.heap → (Builtin.firstCells n m x).run P w' = .ok ((List.range (m * n)).map f).toArray w') ∧
      ∀ (i : Nat) (cs : List AV) (j : Nat) (a : AV), es[i]? = some cs → cs[j]? = some a → (f (i * n + j)).oneCell' = true ∧ RepP E.w E.ok a (f (i * n + j)) := by
  have empty : ∀ (es : List (List AV)), es = [] → (∀ w, (Builtin.lenOf (.slice none 0 0)).run P w = .ok es.length w) ∧ (∀ (i : Nat) (cs : List AV), es[i]? = some cs → cs.length = n) ∧
      ∃ f : Nat → Value, (∀ m, m ≤ es.length → ∀ w' : World, w'.heap = E.w.heap → (Builtin.firstCells n m (.slice none 0 0)).run P w' = .ok ((List.range (m * n)).map f).toArray w') ∧
      ∀ (i : Nat) (cs : List AV) (j : Nat) (a : AV), es[i]? = some cs → cs[j]? = some a → (f (i * n + j)).oneCell' = true ∧ RepP E.w E.ok a (f (i * n + j)) := by
    rintro es rfl
    exact ⟨fun _ => rfl, by simp, fun _ => undef, fun m hm w' _ => by obtain rfl : m = 0 := by simpa using hm
                                                                      simp [Builtin.firstCells], by simp⟩
  unfold source at h
  split at h
  · obtain ⟨rfl, -⟩ := Prod.mk.inj (Option.some.inj h)
    obtain rfl := hy.nil_inv
    exact empty _ rfl
  · split at h
    · rename_i sz xs hsz
      subst hsz
      obtain ⟨rfl, -⟩ := Prod.mk.inj (Option.some.inj h)
      rcases hy.sl_inv with ⟨rfl, rfl | ⟨a, cap, rfl⟩⟩ | ⟨b, o, cap, rfl, hk, hc, hz, hcell⟩
      · exact empty _ rfl
      · exact ⟨fun _ => rfl, by simp, fun _ => undef, fun m hm w' _ => by obtain rfl : m = 0 := by simpa using hm
                                                                          simp [Builtin.firstCells, loadCells, loadCellsFrom], by simp⟩
      · obtain ⟨f, h1, h2⟩ := cells_read (P := P) hn hz hcell
        exact ⟨fun _ => rfl, hz, f, h1, h2⟩
    · exact absurd h (by simp)
  · rename_i id off len
    have main : ∀ (sz : Nat) (xs : List (List AV)), get s.mem id = some (.row sz xs) ∨ get s.mem id = some (.frz sz xs) → sz = n ∧ off + len ≤ xs.length → es = (xs.drop off).take len →
    (∀ w, (Builtin.lenOf x).run P w = .ok es.length w) ∧ (∀ (i : Nat) (cs : List AV), es[i]? = some cs → cs.length = n) ∧
    ∃ f : Nat → Value, (∀ m, m ≤ es.length → ∀ w' : World, w'.heap = E.w.heap → (Builtin.firstCells n m x).run P w' = .ok ((List.range (m * n)).map f).toArray w') ∧
      ∀ (i : Nat) (cs : List AV) (j : Nat) (a : AV), es[i]? = some cs → cs[j]? = some a → (f (i * n + j)).oneCell' = true ∧ RepP E.w E.ok a (f (i * n + j)) := by
      rintro sz xs hg ⟨rfl, hlen⟩ rfl
      have hll : ((xs.drop off).take len).length = len := by simp; omega
      rcases hy.own_inv.2 with ⟨hl, rfl, rfl, rfl⟩ | ⟨b, o, z, cap, hl, rfl, hc, _⟩
      · exact empty _ (by simp)
      · have hzz := row_loc hM hg hl
        subst hzz
        obtain ⟨hz, hcell⟩ := row_cells (off := off) (len := len) hM hg hl
        obtain ⟨f, h1, h2⟩ := cells_read (P := P) hn hz hcell
        exact ⟨fun _ => by rw [hll]; rfl, hz, f, h1, h2⟩
    split at h
    · rename_i sz xs hg
      split at h
      · rename_i hc
        obtain ⟨e, -⟩ := Prod.mk.inj (Option.some.inj h)
        exact main sz xs (.inl hg) hc e.symm
      · exact absurd h (by simp)
    · rename_i sz xs hg
      split at h
      · rename_i hc
        obtain ⟨e, -⟩ := Prod.mk.inj (Option.some.inj h)
        exact main sz xs (.inr hg) hc e.symm
      · exact absurd h (by simp)
    · exact absurd h (by simp)
  · rename_i b
    split at h
    · rename_i h1
      subst h1
      obtain ⟨rfl, -⟩ := Prod.mk.inj (Option.some.inj h)
      obtain rfl := hy.sc_inv
      have hbl : b.toList.length = b.size := by rw [ByteArray.toList_eq]; rfl
      refine ⟨fun _ => by simp [Builtin.lenOf, hbl], fun i cs hi => ?_, fun k => .int .u8 ((b.toList.getD k 0).toNat : Int), fun m hm w' _ => ?_, fun i cs j a hi hj => ?_⟩
      · simp only [List.getElem?_map, Option.map_eq_some_iff] at hi
        obtain ⟨c, _, rfl⟩ := hi
        rfl
      · simp only [List.length_map, hbl] at hm
        simp only [Builtin.firstCells, Sem.run_pure]
        congr 1
        apply Array.ext'
        simp only [Nat.mul_one]
        apply List.ext_getElem?
        intro k
        rw [ByteArray.toList_eq]
        simp only [ByteArray.data_extract, Array.toList_map, Array.toList_extract, List.getElem?_map, List.getElem?_range]
        by_cases hk : k < m
        · have hkb : k < b.data.toList.length := by simpa using (by omega : k < b.size)
          simp [hk, List.extract_eq_take_drop, List.getElem?_take, List.getD_eq_getElem?_getD, List.getElem?_eq_getElem hkb, Array.getElem?_eq_getElem (show k < b.data.size by simpa using hkb)]
        · simp [hk, List.extract_eq_take_drop, List.getElem?_take]
      · simp only [List.getElem?_map, Option.map_eq_some_iff] at hi
        obtain ⟨c, hc, rfl⟩ := hi
        cases j with
        | zero =>
          obtain rfl := Option.some.inj hj
          simp only [Nat.mul_one, Nat.add_zero, List.getD_eq_getElem?_getD, hc, Option.getD_some]
          exact ⟨rfl, .sc _⟩
        | succ j => simp at hj
    · exact absurd h (by simp)
  · exact absurd h (by simp)
end Go.Ab
end
