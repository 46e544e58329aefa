/- The abstract interpreter: append, copy. -/
import Derived.Test.YtchibfkcphbmjaaAb14
set_option linter.unusedVariables false
set_option linter.unusedSimpArgs false
set_option linter.unusedSectionVars false

namespace Go.Ab
open Go.RowKit (Below)

theorem tnoint_inv {P : Program} {u : TypeId} (h : tnoint P u = true) : ∃ d, P.underlying u = some d ∧ ∀ k, d ≠ .int k := by
  unfold tnoint at h
  split at h
  · exact absurd h (by simp)
  · rename_i d hd hne
    exact ⟨d, hne, fun k e => hd k e⟩
  · exact absurd h (by simp)

theorem run_zeros {P : Program} {u : TypeId} (h : tnoint P u = true) (w : World) : ∃ d, (underlying u).run P w = .ok d w ∧ (match d with | .int _ => true | _ => false) = false := by
  obtain ⟨d, hd, hne⟩ := tnoint_inv h
  refine ⟨d, run_underlying hd w, ?_⟩
  cases d <;> first | rfl | (exact absurd rfl (hne _))

section
variable {P : Program} {t u e : TypeId} {g : Bool} {n b : Nat} {i : TypeInfo} {v : Value} {base : Option Addr} {sLen sCap m : Nat} {x : Value} {w : World} {co cn : Array Value} (ty : TypeId)

theorem run_append_grow (he : P.underlying t = some (.slice e)) (hu : tnoint P u = true) (hz : tsz P e = some (g, n)) (hi : P.info? e = some i) (hzv : i.zero = some v) (hb : 0 < i.bytes)
    (hlen : ∀ w, (Builtin.lenOf x).run P w = .ok m w) (hneed : sCap < sLen + m) (hlim : (sLen + m) * i.bytes ≤ 140737488355328)
    (hold : ∀ w' : World, w'.heap = w.heap → (Builtin.firstCells n sLen (.slice base sLen sCap)).run P w' = .ok co w') (hnew : ∀ w' : World, w'.heap = w.heap → (Builtin.firstCells n m x).run P w' = .ok cn w') :
    ∃ cap, sLen + m ≤ cap ∧ (Builtin.append_ #[t, u] ty #[.slice base sLen sCap, x]).run P w =
      .ok (.slice (some ⟨w.heap.size, 0, none⟩) (sLen + m) cap) (w.drew.alloc (.cells (co ++ cn ++ Builtin.zeroCells v.cells (cap - (sLen + m))) e)) := by
  obtain ⟨d, hd, hdi⟩ := run_zeros hu w
  have h1 : ¬ (sLen + m ≤ sCap) := by omega
  have hle : sLen + m ≤ (sLen + m) * i.bytes := Nat.le_mul_of_pos_right _ hb
  have h2 : ¬ (((sLen + m : Nat) : Int) > IntKind.i64.max ∧ i.bytes = 0) := by omega
  have h3 : ¬ (Builtin.nextslicecap (sLen + m) sCap * i.bytes > 281474976710656) := by have := growslice_fits hneed hlim; omega
  have hti : ∀ w, (typeInfo e).run P w = .ok i w := fun w => by simp [typeInfo, hi]
  have hzr : ∀ w, (zeroValue e).run P w = .ok v w := fun w => by simp [zeroValue, hti, hzv]
  have hq : (Question.appendCap (sLen + m) sCap e).forced = false := rfl
  refine ⟨(Question.appendCap (sLen + m) sCap e).cut (w.tape w.drawn (.appendCap (sLen + m) sCap e)), Nat.le_add_right _ _, ?_⟩
  generalize hcap : (Question.appendCap (sLen + m) sCap e).cut (w.tape w.drawn (.appendCap (sLen + m) sCap e)) = cap
  have ho := hold w.drew rfl
  have hn := hnew w.drew rfl
  cases d with
  | int k => exact absurd hdi (by simp)
  | _ =>
    simp only [Builtin.append_, List.getElem?_toArray, List.getElem?_cons_zero, List.getElem?_cons_succ, Sem.run_bind, run_underlying he, Result.andThen_ok, run_sizeOf_tsz hz, hd, Sem.run_pure, Bool.false_eq_true, if_false, hlen, h1, hti, false_or, h2, Sem.run_ite, Nat.reducePow, h3,
      run_choose, hq, run_askRoom, hcap, newRow, run_newObj, Bool.not_false, if_true]
    show (((Builtin.firstCells n sLen (.slice base sLen sCap)).run P w.drew).andThen _) = _
    simp only [ho, hn, Result.andThen_ok, hzr]
    rfl

theorem run_append_fit (he : P.underlying t = some (.slice e)) (hu : tnoint P u = true) (hz : tsz P e = some (g, n)) (hlen : ∀ w, (Builtin.lenOf x).run P w = .ok m w) (hneed : sLen + m ≤ sCap)
    (hnew : (Builtin.firstCells n m x).run P w = .ok cn w) {a : Addr} {w' : World} (hst : (storeCells (a.add (sLen * n)) cn.toList).run P w = .ok () w') :
    (Builtin.append_ #[t, u] ty #[.slice (some a) sLen sCap, x]).run P w = .ok (.slice (some a) (sLen + m) sCap) w' := by
  obtain ⟨d, hd, hdi⟩ := run_zeros hu w
  cases d with
  | int k => exact absurd hdi (by simp)
  | _ =>
    simp only [Builtin.append_, List.getElem?_toArray, List.getElem?_cons_zero, List.getElem?_cons_succ, Sem.run_bind, run_underlying he, Result.andThen_ok, run_sizeOf_tsz hz, hd, Sem.run_pure, Bool.false_eq_true, if_false, hlen, hneed, Sem.run_ite, if_true, hnew, hst, Bool.not_false]

theorem run_append_nil (he : P.underlying t = some (.slice e)) (hu : tnoint P u = true) (hz : tsz P e = some (g, n)) (hlen : ∀ w, (Builtin.lenOf x).run P w = .ok 0 w)
    (hnew : (Builtin.firstCells n 0 x).run P w = .ok cn w) : (Builtin.append_ #[t, u] ty #[.slice none 0 0, x]).run P w = .ok (.slice none 0 0) w := by
  obtain ⟨d, hd, hdi⟩ := run_zeros hu w
  cases d with
  | int k => exact absurd hdi (by simp)
  | _ =>
    simp only [Builtin.append_, List.getElem?_toArray, List.getElem?_cons_zero, List.getElem?_cons_succ, Sem.run_bind, run_underlying he, Result.andThen_ok, run_sizeOf_tsz hz, hd, Sem.run_pure, Bool.false_eq_true, if_false, hlen, Nat.add_zero, Nat.le_refl, Sem.run_ite, if_true, hnew, Bool.not_false]
end

theorem cell_heap {w w' : World} (h : w'.heap = w.heap) (a : Addr) : w'.cell? a = w.cell? a := by simp only [World.cell?, h]

/-- What an append or a copy reads. -/
theorem cells_read {E : Env} {P : Program} {n : Nat} {es : List (List AV)} {b o : Nat} (hn : 0 < n) (hz : ∀ (i : Nat) (cs : List AV), es[i]? = some cs → cs.length = n)
    (hc : ∀ (i : Nat) (cs : List AV) (j : Nat) (a : AV), es[i]? = some cs → cs[j]? = some a → ∃ y, E.w.cell? ⟨b, o + i * n + j, none⟩ = some y ∧ y.oneCell' = true ∧ RepP E.w E.ok a y) :
    ∃ f : Nat → Value, (∀ m, m ≤ es.length → ∀ w' : World, w'.heap = E.w.heap → (loadCells ⟨b, o, none⟩ (m * n)).run P w' = .ok ((List.range (m * n)).map f).toArray w') ∧
      ∀ (i : Nat) (cs : List AV) (j : Nat) (a : AV), es[i]? = some cs → cs[j]? = some a → (f (i * n + j)).oneCell' = true ∧ RepP E.w E.ok a (f (i * n + j)) := by
  refine ⟨fun k => (E.w.cell? ⟨b, o + k, none⟩).getD undef, fun m hm w' hw => ?_, fun i cs j a hi hj => ?_⟩
  · refine run_loadCells w' _ _ _ fun k hk => ?_
    rw [addr_add, cell_heap hw]
    have h1 : k / n < m := Nat.div_lt_of_lt_mul (by rw [Nat.mul_comm]; exact hk)
    have h2 : k % n < n := Nat.mod_lt _ hn
    have hget : es[k / n]? = some es[k / n] := List.getElem?_eq_getElem (by omega)
    have hl := hz _ _ hget
    obtain ⟨y, hy, _⟩ := hc _ _ (k % n) _ hget (List.getElem?_eq_getElem (by omega))
    have e : o + k / n * n + k % n = o + k := by rw [Nat.add_assoc, Nat.div_add_mod']
    rw [e] at hy
    simp [hy]
  · obtain ⟨y, h1, h2, h3⟩ := hc i cs j a hi hj
    simp only [← Nat.add_assoc, h1, Option.getD_some]
    exact ⟨h2, h3⟩

theorem row_cells {E : Env} {base : Nat} {mem : List (Nat × Arr)} (hM : MemRel E base mem) {id off len sz : Nat} {xs : List (List AV)} (hg : get mem id = some (.row sz xs) ∨ get mem id = some (.frz sz xs)) {b o z : Nat} (hl : E.loc id = some (b, o, z)) :
    (∀ (i : Nat) (cs : List AV), ((xs.drop off).take len)[i]? = some cs → cs.length = sz) ∧ ∀ (i : Nat) (cs : List AV) (j : Nat) (a : AV), ((xs.drop off).take len)[i]? = some cs → cs[j]? = some a →
      ∃ y, E.w.cell? ⟨b, o + off * sz + i * sz + j, none⟩ = some y ∧ y.oneCell' = true ∧ RepP E.w E.ok a y := by
  have hget : ∀ (i : Nat) (cs : List AV), ((xs.drop off).take len)[i]? = some cs → xs[off + i]? = some cs := by
    intro i cs h
    rw [List.getElem?_take] at h
    split at h
    · rwa [List.getElem?_drop] at h
    · exact absurd h (by simp)
  have main : ∀ (c : Array Value) (t : TypeId), E.w.heap[b]? = some (.cells c t (0, 0)) → Cells E.w E.ok c o sz xs → (∀ (i : Nat) (cs : List AV), ((xs.drop off).take len)[i]? = some cs → cs.length = sz) ∧ ∀ (i : Nat) (cs : List AV) (j : Nat) (a : AV), ((xs.drop off).take len)[i]? = some cs → cs[j]? = some a →
      ∃ y, E.w.cell? ⟨b, o + off * sz + i * sz + j, none⟩ = some y ∧ y.oneCell' = true ∧ RepP E.w E.ok a y := by
    intro c t hb hc
    refine ⟨fun i cs hi => (hc _ cs (hget i cs hi)).1, fun i cs j a hi hj => ?_⟩
    obtain ⟨y, h1, h2⟩ := (hc _ cs (hget i cs hi)).2 j a hj
    refine ⟨y, ?_, h2⟩
    rw [cell_at hb, ← h1, Nat.add_mul, ← Nat.add_assoc]
  rcases hg with hg | hg
  · have hr := (hM.arr id _ hg).2
    simp only [ArrRel, hl] at hr
    obtain ⟨c, t, hb, _, _, _, _, hc⟩ := hr
    exact main c t hb hc
  · have hr := (hM.arr id _ hg).2
    simp only [ArrRel, hl] at hr
    obtain ⟨c, t, hb, _, _, _, _, hc⟩ := hr
    exact main c t hb hc

theorem source_sound {E : Env} {P : Program} {base : Nat} {s : AS} {n : Nat} {y : AV} {x : Value} {es : List (List AV)} {rd : List Nat} (hM : MemRel E base s.mem) (hn : 0 < n) (hy : Rep E y x) (h : source s n y = some (es, rd)) :
    (∀ w, (Builtin.lenOf x).run P w = .ok es.length w) ∧ (∀ (i : Nat) (cs : List AV), es[i]? = some cs → cs.length = n) ∧
    ∃ f : Nat → Value, (∀ m, m ≤ es.length → ∀ w' : World, w'.heap = E.w.heap → (Builtin.firstCells n m x).run P w' = .ok ((List.range (m * n)).map f).toArray w') ∧
      ∀ (i : Nat) (cs : List AV) (j : Nat) (a : AV), es[i]? = some cs → cs[j]? = some a → (f (i * n + j)).oneCell' = true ∧ RepP E.w E.ok a (f (i * n + j)) := by
  have empty : ∀ (es : List (List AV)), es = [] → (∀ w, (Builtin.lenOf (.slice none 0 0)).run P w = .ok es.length w) ∧ (∀ (i : Nat) (cs : List AV), es[i]? = some cs → cs.length = n) ∧
      ∃ f : Nat → Value, (∀ m, m ≤ es.length → ∀ w' : World, w'.heap = E.w.heap → (Builtin.firstCells n m (.slice none 0 0)).run P w' = .ok ((List.range (m * n)).map f).toArray w') ∧
      ∀ (i : Nat) (cs : List AV) (j : Nat) (a : AV), es[i]? = some cs → cs[j]? = some a → (f (i * n + j)).oneCell' = true ∧ RepP E.w E.ok a (f (i * n + j)) := by
    rintro es rfl
    exact ⟨fun _ => rfl, by simp, fun _ => undef, fun m hm w' _ => by obtain rfl : m = 0 := by simpa using hm
                                                                      simp [Builtin.firstCells], by simp⟩
  unfold source at h
  split at h
  · obtain ⟨rfl, -⟩ := Prod.mk.inj (Option.some.inj h)
    obtain rfl := hy.nil_inv
    exact empty _ rfl
  · split at h
    · rename_i sz xs hsz
      subst hsz
      obtain ⟨rfl, -⟩ := Prod.mk.inj (Option.some.inj h)
      rcases hy.sl_inv with ⟨rfl, rfl | ⟨a, cap, rfl⟩⟩ | ⟨b, o, cap, rfl, hk, hc, hz, hcell⟩
      · exact empty _ rfl
      · exact ⟨fun _ => rfl, by simp, fun _ => undef, fun m hm w' _ => by obtain rfl : m = 0 := by simpa using hm
                                                                          simp [Builtin.firstCells, loadCells, loadCellsFrom], by simp⟩
      · obtain ⟨f, h1, h2⟩ := cells_read (P := P) hn hz hcell
        exact ⟨fun _ => rfl, hz, f, h1, h2⟩
    · exact absurd h (by simp)
  · rename_i id off len
    have main : ∀ (sz : Nat) (xs : List (List AV)), get s.mem id = some (.row sz xs) ∨ get s.mem id = some (.frz sz xs) → sz = n ∧ off + len ≤ xs.length → es = (xs.drop off).take len →
    (∀ w, (Builtin.lenOf x).run P w = .ok es.length w) ∧ (∀ (i : Nat) (cs : List AV), es[i]? = some cs → cs.length = n) ∧
    ∃ f : Nat → Value, (∀ m, m ≤ es.length → ∀ w' : World, w'.heap = E.w.heap → (Builtin.firstCells n m x).run P w' = .ok ((List.range (m * n)).map f).toArray w') ∧
      ∀ (i : Nat) (cs : List AV) (j : Nat) (a : AV), es[i]? = some cs → cs[j]? = some a → (f (i * n + j)).oneCell' = true ∧ RepP E.w E.ok a (f (i * n + j)) := by
      rintro sz xs hg ⟨rfl, hlen⟩ rfl
      have hll : ((xs.drop off).take len).length = len := by simp; omega
      rcases hy.own_inv.2 with ⟨hl, rfl, rfl, rfl⟩ | ⟨b, o, z, cap, hl, rfl, hc, _⟩
      · exact empty _ (by simp)
      · have hzz := row_loc hM hg hl
        subst hzz
        obtain ⟨hz, hcell⟩ := row_cells (off := off) (len := len) hM hg hl
        obtain ⟨f, h1, h2⟩ := cells_read (P := P) hn hz hcell
        exact ⟨fun _ => by rw [hll]; rfl, hz, f, h1, h2⟩
    split at h
    · rename_i sz xs hg
      split at h
      · rename_i hc
        obtain ⟨e, -⟩ := Prod.mk.inj (Option.some.inj h)
        exact main sz xs (.inl hg) hc e.symm
      · exact absurd h (by simp)
    · rename_i sz xs hg
      split at h
      · rename_i hc
        obtain ⟨e, -⟩ := Prod.mk.inj (Option.some.inj h)
        exact main sz xs (.inr hg) hc e.symm
      · exact absurd h (by simp)
    · exact absurd h (by simp)
  · rename_i b
    split at h
    · rename_i h1
      subst h1
      obtain ⟨rfl, -⟩ := Prod.mk.inj (Option.some.inj h)
      obtain rfl := hy.sc_inv
      have hbl : b.toList.length = b.size := by rw [ByteArray.toList_eq]; rfl
      refine ⟨fun _ => by simp [Builtin.lenOf, hbl], fun i cs hi => ?_, fun k => .int .u8 ((b.toList.getD k 0).toNat : Int), fun m hm w' _ => ?_, fun i cs j a hi hj => ?_⟩
      · simp only [List.getElem?_map, Option.map_eq_some_iff] at hi
        obtain ⟨c, _, rfl⟩ := hi
        rfl
      · simp only [List.length_map, hbl] at hm
        simp only [Builtin.firstCells, Sem.run_pure]
        congr 1
        apply Array.ext'
        simp only [Nat.mul_one]
        apply List.ext_getElem?
        intro k
        rw [ByteArray.toList_eq]
        simp only [ByteArray.data_extract, Array.toList_map, Array.toList_extract, List.getElem?_map, List.getElem?_range]
        by_cases hk : k < m
        · have hkb : k < b.data.toList.length := by simpa using (by omega : k < b.size)
          simp [hk, List.extract_eq_take_drop, List.getElem?_take, List.getD_eq_getElem?_getD, List.getElem?_eq_getElem hkb, Array.getElem?_eq_getElem (show k < b.data.size by simpa using hkb)]
        · simp [hk, List.extract_eq_take_drop, List.getElem?_take]
      · simp only [List.getElem?_map, Option.map_eq_some_iff] at hi
        obtain ⟨c, hc, rfl⟩ := hi
        cases j with
        | zero =>
          obtain rfl := Option.some.inj hj
          simp only [Nat.mul_one, Nat.add_zero, List.getD_eq_getElem?_getD, hc, Option.getD_some]
          exact ⟨rfl, .sc _⟩
        | succ j => simp at hj
    · exact absurd h (by simp)
  · exact absurd h (by simp)
end Go.Ab
