/- The abstract interpreter: slices that are made; stores. -/
import Derived.Test.YtchibfkcphbmjaaAb11
set_option linter.unusedVariables false
set_option linter.unusedSimpArgs false
set_option linter.unusedSectionVars false

namespace Go.Ab
open Go.RowKit (Below)
open Go.Great (fill_whole flat_get)

theorem Stepped.after {E E1 E2 : Env} {w0 : World} {okb : Nat → Prop} {mem d : List (Nat × Arr)} {nx : Nat} {r : Res} {x : Value} {rd : List Nat} (f : Frozen E w0 okb (d ++ mem) E1) (h : Stepped E1 w0 okb (d ++ mem) nx r x E2) :
    Stepped E w0 okb mem nx ⟨r.v, r.d ++ d, r.nx, rd⟩ x E2 :=
  ⟨f.le.trans h.le, fun id => by rw [h.al id, f.al], h.nx, h.frm, by rw [List.append_assoc]; exact h.mem, h.rep⟩
theorem Stepped.rd {E E' : Env} {w0 : World} {okb : Nat → Prop} {mem : List (Nat × Arr)} {nx n : Nat} {v : AV} {d : List (Nat × Arr)} {a : List Nat} {x : Value} (h : Stepped E w0 okb mem nx ⟨v, d, n, a⟩ x E') (b : List Nat) : Stepped E w0 okb mem nx ⟨v, d, n, b⟩ x E' :=
  ⟨h.le, h.al, h.nx, h.frm, h.mem, h.rep⟩

theorem divmod {i j s : Nat} (h : j < s) : (i * s + j) / s = i ∧ (i * s + j) % s = j := by
  have hs : 0 < s := by omega
  constructor
  · rw [Nat.mul_comm, Nat.mul_add_div hs, Nat.div_eq_of_lt h, Nat.add_zero]
  · rw [Nat.mul_comm, Nat.mul_add_mod, Nat.mod_eq_of_lt h]
theorem idx_lt {i j n s : Nat} (hi : i < n) (hj : j < s) : i * s + j < n * s := by
  have : (i + 1) * s ≤ n * s := Nat.mul_le_mul_right s hi
  rw [Nat.add_mul] at this
  omega

theorem row_new {E : Env} {w0 : World} {okb : Nat → Prop} {mem : List (Nat × Arr)} {nx : Nat} (hF : Frm E w0 okb) (hM : MemRel E w0.heap.size mem) {c : Array Value} {t : TypeId} {n cap : Nat} {xs : List (List AV)}
    (hid : ¬ E.al nx) (hc : Cells E.w E.ok c 0 n xs) (hcap : cap * n ≤ c.size) (hlen : xs.length ≤ cap) :
    ∃ E', E'.w = E.w.alloc (.cells c t) ∧ Stepped E w0 okb mem nx ⟨.own nx 0 xs.length, [(nx, .row n xs)], nx + 1, []⟩ (.slice (some ⟨E.w.heap.size, 0, none⟩) xs.length cap) E' := by
  obtain ⟨hle, hF', hM', hl, ha, hb, hbase, hok, hfar⟩ := new_block hF hM c t nx n hid
  have hn : xs.length * n ≤ c.size := Nat.le_trans (Nat.mul_le_mul_right n hlen) hcap
  refine ⟨_, rfl, hle, fun id => ⟨fun h => h.elim .inl (fun e => .inr (by simp only; omega)), fun h => h.elim .inl (fun e => .inr (by simp only at e; omega))⟩, by simp, hF', ?_, ?_⟩
  · refine hM'.cons ha ?_ (fun _ id' arr' b o z o' z' hne hg hm h2 h3 => ?_)
    · simp only [ArrRel, hl]
      exact ⟨c, t, hb, hbase, hok, by simpa using hn, trivial, hc.mono hle.ok hle.blk⟩
    · rw [hl] at h2
      obtain ⟨rfl, -⟩ := Prod.mk.inj (Option.some.inj h2)
      exact hfar id' arr' _ o' z' hne hg hm h3 rfl
  · have := Rep.own (E := E.new c t nx n) nx 0 xs.length _ 0 n cap ha hl hlen ⟨c, t, _, hb, by simpa using hcap⟩
    simpa using this

theorem constCell_repP (w : World) (ok : Nat → Prop) (v : Value) : RepP w ok (constCell v) v := by
  unfold constCell
  split
  · exact .nil
  · exact .sc _

theorem makeSlice_sound {E : Env} {P : Program} {w0 : World} {okb : Nat → Prop} {s : AS} {t : TypeId} {l c : AV} {x y : Value} {r : Res} (hF : Frm E w0 okb) (hM : MemRel E w0.heap.size s.mem)
    (hx : Rep E l x) (hy : Rep E c y) (h : makeSliceE P s t l c = some r) (hid : ∀ id, s.nx ≤ id → id < r.nx → ¬ E.al id) : ∃ y' E', (Instr.makeSlice t x y).run P E.w = .ok y' E'.w ∧ Stepped E w0 okb s.mem s.nx r y' E' := by
  unfold makeSliceE at h
  split at h
  · rename_i e l c he
    obtain rfl := hx.sc_inv
    obtain rfl := hy.sc_inv
    split at h
    · rename_i g n z b hz hzero hbytes
      split at h
      · rename_i hcond
        obtain ⟨rfl, h0, hlim, hmax, hzl, hn⟩ := hcond
        obtain rfl := Option.some.inj h
        obtain ⟨i, v, hi, hzv, rfl, h1⟩ := tzero_inv hzero
        obtain ⟨i', hi', hsize⟩ := tsz_info hz
        obtain rfl : i = i' := by rw [hi] at hi'; exact Option.some.inj hi'
        have hbi : i.bytes = b := by unfold tbytes at hbytes; rw [hi] at hbytes; simpa using hbytes
        have hrun := run_make (P := P) E.w t e i v (telem_inv he) hi hzv .i64 .i64 l l h0 (Int.le_refl _) (by rw [hbi, Int.mul_comm]; simp only [lim] at hlim; omega) hmax
        have hvs : v.cells.size = n := by simpa using hzl
        have hcells : Cells E.w E.ok (madeCells v.cells (l.toNat * i.size)) 0 n (List.replicate l.toNat (v.cells.toList.map constCell)) := by
          intro k cs hk
          rw [List.getElem?_replicate] at hk
          split at hk
          · rename_i hkl
            obtain rfl := Option.some.inj hk
            refine ⟨hzl, fun j a hj => ?_⟩
            have hjn : j < n := by rw [← hzl]; exact (List.getElem?_eq_some_iff.1 hj).1
            simp only [List.getElem?_map, Option.map_eq_some_iff] at hj
            obtain ⟨u, hu, rfl⟩ := hj
            refine ⟨u, ?_, (List.all_eq_true.1 h1) u (List.mem_of_getElem? hu), constCell_repP _ _ u⟩
            have hlt : k * n + j < l.toNat * n := idx_lt hkl hjn
            rw [hsize]
            simp only [madeCells, Nat.zero_add, Array.getElem?_map, Array.getElem?_range, hlt, if_true, Option.map_some, hvs, (divmod (i := k) hjn).2]
            congr 1
            have : v.cells[j]? = some u := by simpa using hu
            simp [getElem!_def, this]
          · exact absurd hk (by simp)
        obtain ⟨E', hw, hS⟩ := row_new (nx := s.nx) (t := e) (cap := l.toNat) hF hM (hid s.nx (Nat.le_refl _) (by simp)) hcells (by rw [size_madeCells, hsize]; exact Nat.le_refl _) (by simp)
        refine ⟨_, E', by rw [hw]; exact hrun, ?_⟩
        simpa using hS
      · exact absurd h (by simp)
    · exact absurd h (by simp)
  · exact absurd h (by simp)

theorem elems_sound {E : Env} {n : Nat} : ∀ {ps : List (Nat × AV)} {pv : List (Nat × Value)} {k : Nat} {xs : List (List AV)}, elems n k ps = some xs → pv.map (·.1) = ps.map (·.1) → Reps E (ps.map (·.2)) (pv.map (·.2)) →
    pv = ((pv.map (·.2)).zipIdx k).map (fun x => (x.2, x.1)) ∧ xs.length = pv.length ∧ ∀ (i : Nat) (cs : List AV), xs[i]? = some cs → cs.length = n ∧ ∃ v, (pv.map (·.2))[i]? = some v ∧ Ones E cs v.cells.toList
  | [], pv, k, xs, h, hi, hr => by
    obtain rfl : pv = [] := by simpa using hi
    obtain rfl := Option.some.inj h
    exact ⟨rfl, rfl, by simp⟩
  | (i, v) :: ps, pv, k, xs, h, hi, hr => by
    cases pv with
    | nil => simp at hi
    | cons p pv =>
      obtain ⟨i', x⟩ := p
      simp only [List.map_cons, List.cons.injEq] at hi
      obtain ⟨rfl, hi⟩ := hi
      unfold elems at h
      split at h
      · rename_i vs xs' hv hrest
        split at h
        · rename_i hc
          obtain ⟨rfl, hn⟩ := hc
          obtain rfl := Option.some.inj h
          obtain ⟨cv, hxc, h1, hrc⟩ := cells_sound hv (hr.2 0 v x rfl rfl)
          obtain ⟨q1, q2, q3⟩ := elems_sound hrest hi (drop_reps hr 1)
          refine ⟨by simp only [List.map_cons, List.zipIdx_cons]; rw [← q1], by simp [q2], fun j cs hj => ?_⟩
          cases j with
          | zero => simp at hj; subst hj; exact ⟨hn, x, rfl, by rw [hxc]; exact ⟨hrc, h1⟩⟩
          | succ j => exact q3 j cs (by simpa using hj)
        · exact absurd h (by simp)
      · exact absurd h (by simp)

theorem pureRows_sound {w0 : World} {okb : Nat → Prop} : ∀ {xs xs' : List (List AV)} {E : Env} {mem d : List (Nat × Arr)} {rd : List Nat} {vs : List (List Value)}, Frm E w0 okb → MemRel E w0.heap.size mem → vs.length = xs.length →
    (∀ (i : Nat) (cs : List AV) (v : List Value), xs[i]? = some cs → vs[i]? = some v → Ones E cs v) → pureRows mem xs = some (xs', d, rd) →
    ∃ E', Frozen E w0 okb (d ++ mem) E' ∧ xs'.length = xs.length ∧ ∀ (i : Nat) (cs : List AV) (v : List Value), xs'[i]? = some cs → vs[i]? = some v → OnesP E'.w E'.ok cs v
  | [], xs', E, mem, d, rd, vs, hF, hM, hl, ho, h => by
    simp only [pureRows, Option.some.injEq, Prod.mk.injEq] at h
    obtain ⟨rfl, rfl, rfl⟩ := h
    exact ⟨E, .refl hF hM, rfl, by simp⟩
  | c :: r, xs', E, mem, d, rd, vs, hF, hM, hl, ho, h => by
    cases vs with
    | nil => simp at hl
    | cons v vs =>
      unfold pureRows at h
      split at h
      · rename_i c' d1 rd1 hc
        split at h
        · rename_i r' d2 rd2 hr
          simp only [Option.some.injEq, Prod.mk.injEq] at h
          obtain ⟨rfl, rfl, rfl⟩ := h
          obtain ⟨E1, f1, p1⟩ := pureCells_sound hF hM (ho 0 c v rfl rfl) hc
          obtain ⟨E2, f2, q2, p2⟩ := pureRows_sound f1.frm f1.mem (by simpa using hl) (fun i cs v h1 h2 => (ho (i + 1) cs v (by simpa using h1) (by simpa using h2)).mono f1.le) hr
          refine ⟨E2, by rw [List.append_assoc]; exact f1.trans f2, by simp [q2], fun j cs v' hj hv => ?_⟩
          cases j with
          | zero => simp at hj hv; subst hj hv; exact p1.mono f2.le.ok f2.le.blk
          | succ j => exact p2 j cs v' (by simpa using hj) (by simpa using hv)
        · exact absurd h (by simp)
      · exact absurd h (by simp)

theorem buildSlice_sound {E : Env} {P : Program} {w0 : World} {okb : Nat → Prop} {s : AS} {t : TypeId} {len : Nat} {ps : List (Nat × AV)} {pv : Array (Nat × Value)} {r : Res} (hF : Frm E w0 okb) (hM : MemRel E w0.heap.size s.mem)
    (hi : pv.toList.map (·.1) = ps.map (·.1)) (hr : Reps E (ps.map (·.2)) (pv.toList.map (·.2))) (h : buildSliceE P s t len ps = some r) (hid : ∀ id, s.nx ≤ id → id < r.nx → ¬ E.al id) :
    ∃ y E', (Instr.buildSlice t len pv).run P E.w = .ok y E'.w ∧ Stepped E w0 okb s.mem s.nx r y E' := by
  unfold buildSliceE at h
  split at h
  · rename_i e he
    split at h
    · rename_i g n z hz hzero
      split at h
      · rename_i hcond
        obtain ⟨hzl, hn, hsmall, hpl⟩ := hcond
        split at h
        · rename_i xs hxs
          split at h
          · rename_i xs' d rd hpr
            obtain rfl := Option.some.inj h
            obtain ⟨q1, q2, q3⟩ := elems_sound hxs hi hr
            have hplen : pv.toList.length = len := by
              have := congrArg List.length hi
              simpa [hpl] using this
            have hlenx : xs.length = len := by rw [q2, hplen]
            obtain ⟨E1, f1, p1, p2⟩ := pureRows_sound (vs := pv.toList.map fun p => p.2.cells.toList) hF hM (by simp [q2]) (fun i cs v h1 h2 => by
              obtain ⟨_, u, hu, ho⟩ := q3 i cs h1
              simp only [List.getElem?_map, Option.map_eq_some_iff] at hu h2
              obtain ⟨a, ha, rfl⟩ := hu
              obtain ⟨a', ha', rfl⟩ := h2
              rw [ha] at ha'
              obtain rfl := Option.some.inj ha'
              exact ho) hpr
            obtain ⟨i, v, hinfo, hzv, rfl, h1⟩ := tzero_inv hzero
            obtain ⟨i', hi', hsize⟩ := tsz_info hz
            obtain rfl : i = i' := by rw [hinfo] at hi'; exact Option.some.inj hi'
            have hvc : ∀ u ∈ pv.toList.map (·.2), u.cells.size = n := by
              intro u hu
              obtain ⟨k, hk⟩ := List.getElem?_of_mem hu
              have hkl : k < xs.length := by have := (List.getElem?_eq_some_iff.1 hk).1; simp at this; rw [q2]; simpa using this
              obtain ⟨hcl, u', hu', ho⟩ := q3 k _ (List.getElem?_eq_getElem hkl)
              rw [hk] at hu'
              obtain rfl := Option.some.inj hu'
              have := ho.1.1
              rw [Array.length_toList] at this
              rw [this, hcl]
            let c : Array Value := ((pv.toList.map (·.2)).flatMap fun v => v.cells.toList).toArray
            have hcsz : c.size = len * n := by
              have : ∀ (l : List Value), (∀ u ∈ l, u.cells.size = n) → (l.flatMap fun v => v.cells.toList).length = l.length * n := by
                intro l
                induction l with
                | nil => intro _; simp
                | cons a l ih => intro hl; rw [List.flatMap_cons, List.length_append, ih (fun u hu => hl u (List.mem_cons_of_mem _ hu)), Array.length_toList, hl a List.mem_cons_self, List.length_cons, Nat.add_mul]; omega
              show (List.toArray _).size = _
              rw [List.size_toArray, this _ hvc, List.length_map, hplen]
            have hrun : (Instr.buildSlice t len pv).run P E.w = .ok (.slice (some ⟨E.w.heap.size, 0, none⟩) len len) (E.w.alloc (.cells c e)) := by
              by_cases h0 : len = 0
              · subst h0
                have hpe : pv.toList = [] := List.length_eq_zero_iff.1 hplen
                have hce : c = #[] := by show (List.toArray _) = _; rw [hpe]; rfl
                rw [hce]
                simp [Instr.buildSlice, run_underlying (telem_inv he), sizeOf, typeInfo, hinfo, hpe, Instr.fill, newRow, Array.range_zero']
              · have hpos : 0 < len * n := Nat.mul_pos (by omega) hn
                have hfill := fill_whole hn (pv.toList.map (·.2)) ((Array.range (len * i.size)).map (v.cells[· % v.cells.size]!)) hvc (by simp [hsize]; rw [← Array.length_toList, hplen])
                rw [← q1, ← hsize] at hfill
                rw [← hsize] at hpos hsmall
                have hs2 : ¬ (16777216 < len * i.size) := by omega
                have hp2 : ¬ (len * i.size = 0) := by omega
                simp only [Instr.buildSlice, Sem.run_bind, run_underlying (telem_inv he), Result.andThen_ok, sizeOf, typeInfo, zeroValue, run_program, hinfo, hzv, Sem.run_pure, Nat.reducePow, gt_iff_lt, hs2, hp2, if_false, Sem.run_ite, hfill, newRow, run_newObj]
                rfl
            have hcells : Cells E1.w E1.ok c 0 n xs' := by
              intro k cs hk
              have hkl : k < xs.length := by rw [← p1]; exact (List.getElem?_eq_some_iff.1 hk).1
              obtain ⟨hcl, u, hu, ho⟩ := q3 k _ (List.getElem?_eq_getElem hkl)
              have hP := p2 k cs u.cells.toList hk (by simp only [List.getElem?_map, Option.map_eq_some_iff] at hu ⊢; obtain ⟨a, ha, rfl⟩ := hu; exact ⟨a, ha, rfl⟩)
              have hu2 := hvc u (List.mem_of_getElem? hu)
              have hcs : cs.length = n := by rw [← hP.1, Array.length_toList, hu2]
              refine ⟨hcs, fun j a hj => ?_⟩
              have hjn : j < n := by rw [← hcs]; exact (List.getElem?_eq_some_iff.1 hj).1
              obtain ⟨y, hy⟩ : ∃ y, u.cells.toList[j]? = some y := ⟨_, List.getElem?_eq_getElem (by rw [Array.length_toList, hu2]; exact hjn)⟩
              refine ⟨y, ?_, hP.2.2 y (List.mem_of_getElem? hy), hP.2.1 j a y hj hy⟩
              show (List.toArray _)[_]? = _
              rw [List.getElem?_toArray, Nat.zero_add, flat_get hn _ hvc, (divmod (i := k) hjn).1, (divmod (i := k) hjn).2, hu]
              simpa using hy
            obtain ⟨E2, hw, hS⟩ := row_new (nx := s.nx) (t := e) (cap := len) f1.frm f1.mem (by rw [f1.al]; exact hid s.nx (Nat.le_refl _) (by simp)) hcells (by rw [hcsz]; exact Nat.le_refl _) (by rw [p1, hlenx]; exact Nat.le_refl _)
            refine ⟨_, E2, by rw [hw, f1.w]; exact hrun, ?_⟩
            have := Stepped.after (rd := rd) f1 hS
            rw [p1, hlenx, f1.w] at this
            exact this
          · exact absurd h (by simp)
        · exact absurd h (by simp)
      · exact absurd h (by simp)
    · exact absurd h (by simp)
  · exact absurd h (by simp)
end Go.Ab
