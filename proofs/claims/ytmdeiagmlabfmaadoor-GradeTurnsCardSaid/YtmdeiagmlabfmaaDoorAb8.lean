/- The abstract interpreter: addresses, parts, lengths. -/
import Derived.Test.YtmdeiagmlabfmaaDoorAb7
set_option linter.unusedVariables false
set_option linter.unusedSimpArgs false
set_option linter.unusedSectionVars false

namespace Go.Ab
open Go.RowKit (Below)

theorem telem_inv {P : Program} {t e : TypeId} (h : telem P t = some e) : P.underlying t = some (.slice e) := by
  unfold telem at h
  split at h
  · rename_i hu; obtain rfl := Option.some.inj h; exact hu
  · exact absurd h (by simp)
theorem tstr_inv {P : Program} {t : TypeId} (h : tstr P t = true) : P.underlying t = some .string := by
  unfold tstr at h
  split at h
  · rename_i hu; exact hu
  · exact absurd h (by simp)
theorem tint_inv {P : Program} {t : TypeId} {k : IntKind} (h : tint P t = some k) : P.underlying t = some (.int k) := by
  unfold tint at h
  split at h
  · rename_i hu; obtain rfl := Option.some.inj h; exact hu
  · exact absurd h (by simp)

theorem tfloat_inv {P : Program} {t : TypeId} {k : FloatKind} (h : tfloat P t = some k) : P.underlying t = some (.float k) := by
  unfold tfloat at h
  split at h
  · rename_i k' hu; obtain rfl := Option.some.inj h; exact hu
  · exact absurd h (by simp)
theorem conv_sound {E : Env} {P : Program} {w0 : World} {okb : Nat → Prop} {s : AS} {t u : TypeId} {v : AV} {x : Value} {r : Res} (hF : Frm E w0 okb) (hM : MemRel E w0.heap.size s.mem)
    (hx : Rep E v x) (h : convE P s t u v = some r) : ∃ y, (convert t u x).run P E.w = .ok y E.w ∧ Stepped E w0 okb s.mem s.nx r y E := by
  unfold convE at h
  split at h
  · rename_i k n
    obtain rfl := hx.sc_inv
    split at h
    · rename_i k1 k2 h1 h2
      obtain rfl := Option.some.inj h
      exact ⟨_, by simp [convert, run_underlying (tint_inv h1), run_underlying (tint_inv h2), Conv.intToInt], .same hF hM (.pure (.sc _))⟩
    · rename_i k1 k2 h1 h2 h3
      obtain rfl := Option.some.inj h
      exact ⟨_, by simp [convert, run_underlying (tint_inv h1), run_underlying (tfloat_inv h3), Conv.intToFloat], .same hF hM (.pure (.sc _))⟩
    · exact absurd h (by simp)
  · rename_i k b
    obtain rfl := hx.sc_inv
    split at h
    · rename_i k1 k2 n h1 h2 h3
      split at h
      · rename_i hc
        obtain rfl := Option.some.inj h
        exact ⟨_, by simp [convert, run_underlying (tfloat_inv h1), run_underlying (tint_inv h2), Conv.floatToInt, h3, hc], .same hF hM (.pure (.sc _))⟩
      · exact absurd h (by simp)
    · exact absurd h (by simp)
  · rename_i b
    obtain rfl := hx.sc_inv
    split at h
    · rename_i hc
      obtain rfl := Option.some.inj h
      exact ⟨_, by simp [convert, run_underlying (tstr_inv hc.1), run_underlying (tstr_inv hc.2)], .same hF hM (.pure (.sc _))⟩
    · exact absurd h (by simp)
  · exact absurd h (by simp)

theorem tfld_inv {P : Program} {t u : TypeId} {f o : Nat} (h : tfld P t f = some (o, u)) : ∃ fs fld, P.underlying t = some (.struct fs) ∧ fs[f]? = some fld ∧ fld.offset = o ∧ fld.type = u := by
  unfold tfld at h
  split at h
  · rename_i fs hu
    cases hf : fs[f]? with
    | none => simp [hf] at h
    | some fld => simp only [hf, Option.map_some, Option.some.injEq, Prod.mk.injEq] at h; exact ⟨fs, fld, hu, hf, h.1, h.2⟩
  · exact absurd h (by simp)

theorem fieldAddr_sound {E : Env} {P : Program} {w0 : World} {okb : Nat → Prop} {s : AS} {t : TypeId} {f : Nat} {v : AV} {x : Value} {r : Res} (hF : Frm E w0 okb) (hM : MemRel E w0.heap.size s.mem)
    (hx : Rep E v x) (h : fieldAddrE P s t v f = some r) : ∃ y, (Instr.fieldAt t x f).run P E.w = .ok y E.w ∧ Stepped E w0 okb s.mem s.nx r y E := by
  unfold fieldAddrE at h
  split at h
  · rename_i o u hf
    obtain ⟨fs, fld, hu, hfs, rfl, rfl⟩ := tfld_inv hf
    have go : ∀ (g : Bool) (n b p : Nat), tsz P fld.type = some (g, n) → 0 < n → (Instr.fieldAt t (.pointer (some ⟨b, p, none⟩)) f).run P E.w = .ok (.pointer (some ⟨b, p + fld.offset, none⟩)) E.w := by
      intro g n b p hz hn
      have hn' : ¬ (n = 0) := by omega
      simp [Instr.fieldAt, run_underlying hu, hfs, Instr.sureAddr, fieldPlace, run_sizeOf_tsz hz, hn', addr_add]
    split at h
    · rename_i g n id i j hz
      split at h
      · rename_i hn
        obtain rfl := Option.some.inj h
        obtain ⟨ha, b, o, z, hl, rfl⟩ := hx.ptr_inv
        refine ⟨_, go g n b _ hz hn, .same hF hM ?_⟩
        have := Rep.ptr (E := E) id i (j + fld.offset) b o z ha hl
        rwa [← Nat.add_assoc] at this
      · exact absurd h (by simp)
    · rename_i g n cs hz
      split at h
      · rename_i hn
        obtain rfl := Option.some.inj h
        obtain ⟨b, o, rfl, hk, hc⟩ := hx.ref_inv
        refine ⟨_, go g n b _ hz hn, .same hF hM ?_⟩
        obtain ⟨cv, hl, hq⟩ := listOf cs hc
        refine .pure (.ref _ b (o + fld.offset) (fun j => cv.getD (fld.offset + j) undef) hk ?_ ?_ ?_)
        all_goals
          intro j c hj
          rw [List.getElem?_drop] at hj
          obtain ⟨y, hy⟩ : ∃ y, cv[fld.offset + j]? = some y := ⟨_, List.getElem?_eq_getElem (by have := (List.getElem?_eq_some_iff.1 hj).1; omega)⟩
          obtain ⟨q1, q2, q3⟩ := hq _ _ _ hj hy
          simp only [List.getD_eq_getElem?_getD, hy, Option.getD_some]
          first | (rw [Nat.add_assoc]; exact q1) | exact q2 | exact q3
      · exact absurd h (by simp)
    · exact absurd h (by simp)
  · exact absurd h (by simp)

theorem part_run {E : Env} {P : Program} {t : TypeId} {z : Bool × Nat} {cs : List AV} {cv : List Value} {o : Nat} {v : AV} (hz : tsz P t = some z) (hp : part z (cs.drop o) = some v)
    (hr : Reps E cs cv) (h1 : ∀ v, v ∈ cv → v.oneCell' = true) (w : World) : ∃ y, (Go.part t cv.toArray o).run P w = .ok y w ∧ Rep E v y := by
  obtain ⟨g, n⟩ := z
  unfold Go.part
  simp only [Sem.run_bind, run_isAgg_tsz hz, Result.andThen_ok]
  cases g with
  | true =>
    simp only [part, if_true] at hp
    split at hp
    · rename_i hn
      obtain rfl := Option.some.inj hp
      have ht := take_reps (drop_reps hr o) n
      refine ⟨.agg ((cv.drop o).take n).toArray, ?_, .agg _ _ ht.1 (fun v hv => h1 v (List.mem_of_mem_drop (List.mem_of_mem_take hv))) ht.2⟩
      simp only [if_true, Sem.run_bind, run_sizeOf_tsz hz, Result.andThen_ok, Sem.run_pure]
      congr 2
      apply Array.ext'
      simp
    · exact absurd hp (by simp)
  | false =>
    simp only [part, Bool.false_eq_true, if_false] at hp
    have hp' : cs[o]? = some v := by rw [← hp, List.head?_drop]
    obtain ⟨y, hy⟩ : ∃ y, cv[o]? = some y := ⟨_, List.getElem?_eq_getElem (by have := (List.getElem?_eq_some_iff.1 hp').1; rw [hr.1]; exact this)⟩
    exact ⟨y, by simp [hy], hr.2 o v y hp' hy⟩

theorem field_sound {E : Env} {P : Program} {w0 : World} {okb : Nat → Prop} {s : AS} {t : TypeId} {f : Nat} {v : AV} {x : Value} {r : Res} (hF : Frm E w0 okb) (hM : MemRel E w0.heap.size s.mem)
    (hx : Rep E v x) (h : fieldE P s t v f = some r) : ∃ y, (Instr.field t x f).run P E.w = .ok y E.w ∧ Stepped E w0 okb s.mem s.nx r y E := by
  unfold fieldE at h
  split at h
  · rename_i o u cs hf
    obtain ⟨fs, fld, hu, hfs, rfl, rfl⟩ := tfld_inv hf
    split at h
    · rename_i z hz
      split at h
      · rename_i v hv
        obtain rfl := Option.some.inj h
        obtain ⟨cv, rfl, h1, hr⟩ := hx.agg_inv
        obtain ⟨y, hy, hR⟩ := part_run hz hv hr h1 E.w
        exact ⟨y, by simp [Instr.field, run_underlying hu, hfs, asAgg, hy], .same hF hM hR⟩
      · exact absurd h (by simp)
    · exact absurd h (by simp)
  · exact absurd h (by simp)


theorem elem_tsz {P : Program} {t : TypeId} {z : Bool × Nat} (h : (telem P t).bind (tsz P) = some z) : ∃ e, P.underlying t = some (.slice e) ∧ tsz P e = some z := by
  cases he : telem P t with
  | none => simp [he] at h
  | some e => exact ⟨e, telem_inv he, by simpa [he] using h⟩

theorem run_indexAt {P : Program} {t e : TypeId} {g : Bool} {n : Nat} (hu : P.underlying t = some (.slice e)) (hz : tsz P e = some (g, n)) {b o len cap : Nat} {k : IntKind} {i : Int} (h0 : 0 ≤ i) (h1 : i < len) (w : World) :
    (Instr.indexAt t (.slice (some ⟨b, o, none⟩) len cap) (.int k i)).run P w = .ok (.pointer (some ⟨b, o + i.toNat * n, none⟩)) w := by
  simp [Instr.indexAt, asIntOf, run_underlying hu, h0, h1, run_sizeOf_tsz hz, addr_add]

theorem row_loc {E : Env} {base id : Nat} {mem : List (Nat × Arr)} {sz : Nat} {xs : List (List AV)} {b o z : Nat} (hM : MemRel E base mem) (hg : get mem id = some (.row sz xs) ∨ get mem id = some (.frz sz xs))
    (hl : E.loc id = some (b, o, z)) : z = sz := by
  rcases hg with hg | hg
  · have hr := (hM.arr id _ hg).2
    simp only [ArrRel, hl] at hr
    obtain ⟨_, _, _, _, _, _, hz, _⟩ := hr
    exact hz
  · have hr := (hM.arr id _ hg).2
    simp only [ArrRel, hl] at hr
    obtain ⟨_, _, _, _, _, _, hz, _⟩ := hr
    exact hz

theorem indexSl_sound {E : Env} {P : Program} {w0 : World} {okb : Nat → Prop} {s : AS} {t : TypeId} {v u : AV} {x q : Value} {r : Res} (hF : Frm E w0 okb) (hM : MemRel E w0.heap.size s.mem)
    (hx : Rep E v x) (hq : Rep E u q) (h : indexSlE P s t v u = some r) : ∃ y, (Instr.indexAt t x q).run P E.w = .ok y E.w ∧ Stepped E w0 okb s.mem s.nx r y E := by
  unfold indexSlE at h
  split at h
  · rename_i k i g n hz
    obtain rfl := hq.sc_inv
    obtain ⟨e, hu, hz⟩ := elem_tsz hz
    split at h
    · rename_i sz xs
      split at h
      · rename_i hi
        obtain ⟨h0, rfl⟩ := hi
        split at h
        · rename_i cs hcs
          obtain rfl := Option.some.inj h
          have hlt := (List.getElem?_eq_some_iff.1 hcs).1
          rcases hx.sl_inv with ⟨rfl, _⟩ | ⟨b, o, cap, rfl, hk, hc, hsz, hcell⟩
          · simp at hcs
          · refine ⟨_, run_indexAt hu hz h0 (by omega) _, .same hF hM ?_⟩
            obtain ⟨cv, hl, hq⟩ := listOf cs (fun j c hj => hcell _ cs j c hcs hj)
            refine .pure (.ref _ b _ (fun j => cv.getD j undef) hk ?_ ?_ ?_)
            all_goals
              intro j c hj
              obtain ⟨y, hy⟩ : ∃ y, cv[j]? = some y := ⟨_, List.getElem?_eq_getElem (by have := (List.getElem?_eq_some_iff.1 hj).1; omega)⟩
              obtain ⟨q1, q2, q3⟩ := hq _ _ _ hj hy
              simp only [List.getD_eq_getElem?_getD, hy, Option.getD_some]
              first | exact q1 | exact q2 | exact q3
        · exact absurd h (by simp)
      · exact absurd h (by simp)
    · rename_i id off len
      have main : ∀ (sz : Nat) (xs : List (List AV)), get s.mem id = some (.row sz xs) ∨ get s.mem id = some (.frz sz xs) → 0 ≤ i ∧ i < len ∧ n = sz ∧ 0 < xs.length → ∀ rd, ∃ y, (Instr.indexAt t x (.int k i)).run P E.w = .ok y E.w ∧
          Stepped E w0 okb s.mem s.nx ⟨.ptr id (off + i.toNat) 0, [], s.nx, rd⟩ y E := by
        rintro sz xs hg ⟨h0, h1, rfl, hlen⟩ rd
        obtain ⟨ha, hcase⟩ := hx.own_inv
        rcases hcase with ⟨_, _, rfl, _⟩ | ⟨b, o, z, cap, hl, rfl, hc, _⟩
        · exfalso; omega
        · have hzz := row_loc hM hg hl
          subst hzz
          refine ⟨_, run_indexAt hu hz h0 h1 _, .same hF hM ?_⟩
          have := Rep.ptr (E := E) id (off + i.toNat) 0 b o z ha hl
          rwa [Nat.add_zero, Nat.add_mul, ← Nat.add_assoc] at this
      split at h
      · rename_i sz xs hg
        split at h
        · rename_i hi; obtain rfl := Option.some.inj h; exact main sz xs (.inl hg) hi _
        · exact absurd h (by simp)
      · rename_i sz xs hg
        split at h
        · rename_i hi; obtain rfl := Option.some.inj h; exact main sz xs (.inr hg) hi _
        · exact absurd h (by simp)
      · exact absurd h (by simp)
    · exact absurd h (by simp)
  · exact absurd h (by simp)

theorem tarr_inv {P : Program} {t : TypeId} {n : Nat} {e : TypeId} (h : tarr P t = some (n, e)) : P.underlying t = some (.array n e) := by
  unfold tarr at h
  split at h
  · rename_i n' e' hu
    obtain ⟨rfl, rfl⟩ : n' = n ∧ e' = e := by simpa using h
    exact hu
  · cases h
theorem run_indexArr {P : Program} {t e : TypeId} {len n : Nat} {g : Bool} (hu : P.underlying t = some (.array len e)) (hz : tsz P e = some (g, n)) {b o : Nat} {k : IntKind} {i : Int} (h0 : 0 ≤ i) (h1 : i < len) (w : World) :
    (Instr.indexAt t (.pointer (some ⟨b, o, none⟩)) (.int k i)).run P w = .ok (.pointer (some ⟨b, o + i.toNat * n, none⟩)) w := by
  simp [Instr.indexAt, Instr.sureAddr, asIntOf, run_underlying hu, h0, h1, run_sizeOf_tsz hz, addr_add]
theorem arrAddr_sound {E : Env} {P : Program} {w0 : World} {okb : Nat → Prop} {s : AS} {t e : TypeId} {n : Nat} {v u : AV} {x q : Value} {r : Res} (hF : Frm E w0 okb) (hM : MemRel E w0.heap.size s.mem)
    (hx : Rep E v x) (hq : Rep E u q) (hu : P.underlying t = some (.array n e)) (h : arrAddrE P s n e v u = some r) : ∃ y, (Instr.indexAt t x q).run P E.w = .ok y E.w ∧ Stepped E w0 okb s.mem s.nx r y E := by
  unfold arrAddrE at h
  split at h
  · rename_i g m id a j hz
    obtain rfl := hq.sc_inv
    split at h
    · rename_i hi
      obtain rfl := Option.some.inj h
      obtain ⟨ha, b, o, z, hl, rfl⟩ := hx.ptr_inv
      refine ⟨_, run_indexArr hu hz hi.1 hi.2 _, .same hF hM ?_⟩
      rw [Nat.add_assoc]
      exact Rep.ptr (E := E) id a _ b o z ha hl
    · cases h
  · rename_i i g m cs hz
    obtain rfl := hq.sc_inv
    split at h
    · rename_i hi
      obtain rfl := Option.some.inj h
      obtain ⟨b, o, rfl, hk, hc⟩ := hx.ref_inv
      refine ⟨_, run_indexArr hu hz hi.1 hi.2 _, .same hF hM ?_⟩
      obtain ⟨cv, hl, hq⟩ := listOf cs hc
      refine .pure (.ref _ b (o + (i.toNat * m)) (fun j => cv.getD ((i.toNat * m) + j) undef) hk ?_ ?_ ?_)
      all_goals
        intro j c hj
        rw [List.getElem?_drop] at hj
        obtain ⟨y, hy⟩ : ∃ y, cv[(i.toNat * m) + j]? = some y := ⟨_, List.getElem?_eq_getElem (by have := (List.getElem?_eq_some_iff.1 hj).1; omega)⟩
        obtain ⟨q1, q2, q3⟩ := hq _ _ _ hj hy
        simp only [List.getD_eq_getElem?_getD, hy, Option.getD_some]
        first | (rw [Nat.add_assoc]; exact q1) | exact q2 | exact q3
    · cases h
  · cases h
theorem indexAddr_sound {E : Env} {P : Program} {w0 : World} {okb : Nat → Prop} {s : AS} {t : TypeId} {v u : AV} {x q : Value} {r : Res} (hF : Frm E w0 okb) (hM : MemRel E w0.heap.size s.mem)
    (hx : Rep E v x) (hq : Rep E u q) (h : indexAddrE P s t v u = some r) : ∃ y, (Instr.indexAt t x q).run P E.w = .ok y E.w ∧ Stepped E w0 okb s.mem s.nx r y E := by
  unfold indexAddrE at h
  split at h
  · rename_i n e ht; exact arrAddr_sound hF hM hx hq (tarr_inv ht) h
  · exact indexSl_sound hF hM hx hq h

theorem index_sound {E : Env} {P : Program} {w0 : World} {okb : Nat → Prop} {s : AS} {t : TypeId} {v u : AV} {x q : Value} {r : Res} (hF : Frm E w0 okb) (hM : MemRel E w0.heap.size s.mem)
    (hx : Rep E v x) (hq : Rep E u q) (h : indexE P s t v u = some r) : ∃ y, (Instr.index t x q).run P E.w = .ok y E.w ∧ Stepped E w0 okb s.mem s.nx r y E := by
  unfold indexE at h
  split at h
  · rename_i b k i ht
    obtain rfl := hx.sc_inv
    obtain rfl := hq.sc_inv
    split at h
    · rename_i h0
      split at h
      · rename_i c hc
        obtain rfl := Option.some.inj h
        exact ⟨_, by simp [Instr.index, asIntOf, run_underlying (tstr_inv ht), h0, hc], .same hF hM (.pure (.sc _))⟩
      · exact absurd h (by simp)
    · exact absurd h (by simp)
  · exact absurd h (by simp)

theorem len_sound {E : Env} {P : Program} {w0 : World} {okb : Nat → Prop} {s : AS} {t : TypeId} {v : AV} {x : Value} {r : Res} (hF : Frm E w0 okb) (hM : MemRel E w0.heap.size s.mem)
    (hx : Rep E v x) (h : lenE P s t v = some r) (ty : TypeId) : ∃ y, (Builtin.len_ #[t] ty #[x]).run P E.w = .ok y E.w ∧ Stepped E w0 okb s.mem s.nx r y E := by
  have sl : ∀ (a : Option Addr) (n c : Nat), (telem P t).isSome = true → (Builtin.len_ #[t] ty #[.slice a n c]).run P E.w = .ok (goInt n) E.w := by
    intro a n c ht
    obtain ⟨e, he⟩ := Option.isSome_iff_exists.1 ht
    simp [Builtin.len_, run_underlying (telem_inv he)]
  unfold lenE at h
  split at h
  · obtain rfl := hx.sc_inv
    split at h
    · rename_i ht
      obtain rfl := Option.some.inj h
      exact ⟨_, by simp [Builtin.len_, run_underlying (tstr_inv ht)]; rfl, .same hF hM (.pure (.sc _))⟩
    · exact absurd h (by simp)
  · split at h
    · rename_i xs ht
      obtain rfl := Option.some.inj h
      rcases hx.sl_inv with ⟨rfl, rfl | ⟨a, cap, rfl⟩⟩ | ⟨b, o, cap, rfl, _⟩
      · exact ⟨_, sl _ _ _ ht, .same hF hM (.pure (.sc _))⟩
      · exact ⟨_, sl _ _ _ ht, .same hF hM (.pure (.sc _))⟩
      · exact ⟨_, sl _ _ _ ht, .same hF hM (.pure (.sc _))⟩
    · exact absurd h (by simp)
  · split at h
    · rename_i ht
      obtain rfl := Option.some.inj h
      obtain rfl := hx.nil_inv
      exact ⟨_, sl _ _ _ ht, .same hF hM (.pure (.sc _))⟩
    · exact absurd h (by simp)
  · split at h
    · rename_i id off n ht
      obtain rfl := Option.some.inj h
      rcases hx.own_inv.2 with ⟨_, _, rfl, rfl⟩ | ⟨b, o, z, cap, _, rfl, _⟩
      · exact ⟨_, sl _ _ _ ht, .same hF hM (.pure (.sc _))⟩
      · exact ⟨_, sl _ _ _ ht, .same hF hM (.pure (.sc _))⟩
    · exact absurd h (by simp)
  · exact absurd h (by simp)
end Go.Ab
