/- The abstract interpreter: slices that are made; stores. -/
import Derived.Test.YtmdeiagmlabfmaaDoorAb11
set_option linter.unusedVariables false
set_option linter.unusedSimpArgs false
set_option linter.unusedSectionVars false

section
namespace Go.Ab
open Go.RowKit (Below)
open Go.Great (fill_whole flat_get)

theorem Stepped.after {E E1 E2 : Env} {w0 : World} {okb : Nat → Prop} {mem d : List (Nat × Arr)} {nx : Nat} {r : Res} {x : Value} {rd : List Nat} (f : Frozen E w0 okb (d ++ mem) E1) (h : Stepped E1 w0 okb (d ++ mem) nx r x E2) :
    Stepped E w0 okb mem nx ⟨r.v, r.d ++ d, r.nx, rd⟩ x E2 :=
  ⟨f.le.trans h.le, fun id => by rw [h.al id, f.al], h.nx, h.frm, by rw [List.append_assoc]; exact h.mem, h.rep⟩
theorem Stepped.rd {E E' : Env} {w0 : World} {okb : Nat → Prop} {mem : List (Nat × Arr)} {nx n : Nat} {v : AV} {d : List (Nat × Arr)} {a : List Nat} {x : Value} (h : Stepped E w0 okb mem nx ⟨v, d, n, a⟩ x E') (b : List Nat) : Stepped E w0 okb mem nx ⟨v, d, n, b⟩ x E' :=
  ⟨h.le, h.al, h.nx, h.frm, h.mem, h.rep⟩

theorem divmod {i j s : Nat} (h : j < s) : (i * s + j) / s = i ∧ (i * s + j) % s = j := by
  have hs : 0 < s := by omega
  constructor
  · rw [Nat.mul_comm, Nat.mul_add_div hs, Nat.div_eq_of_lt h, Nat.add_zero]
  · rw [Nat.mul_comm, Nat.mul_add_mod, Nat.mod_eq_of_lt h]
theorem idx_lt {i j n s : Nat} (hi : i < n) (hj : j < s) : i * s + j < n * s := by
  have : (i + 1) * s ≤ n * s := Nat.mul_le_mul_right s hi
  rw [Nat.add_mul] at this
  omega

theorem row_new {E : Env} {w0 : World} {okb : Nat → Prop} {mem : List (Nat × Arr)} {nx : Nat} (hF : Frm E w0 okb) (hM : MemRel E w0.heap.size mem) {c : Array Value} {t : TypeId} {n cap : Nat} {xs : List (List AV)}
    (hid : ¬ E.al nx) (hc : Cells E.w E.ok c 0 n xs) (hcap : cap * n ≤ c.size) (hlen : xs.length ≤ cap) :
    ∃ E', E'.w = E.w.alloc (.cells c t) ∧ Stepped E w0 okb mem nx ⟨.own nx 0 xs.length, [(nx, .row n xs)], nx + 1, []⟩ (.slice (some ⟨E.w.heap.size, 0, none⟩) xs.length cap) E' := by
  obtain ⟨hle, hF', hM', hl, ha, hb, hbase, hok, hfar⟩ := new_block hF hM c t nx n hid
  have hn : xs.length * n ≤ c.size := Nat.le_trans (Nat.mul_le_mul_right n hlen) hcap
  refine ⟨_, rfl, hle, fun id => ⟨fun h => h.elim .inl (fun e => .inr (by simp only; omega)), fun h => h.elim .inl (fun e => .inr (by simp only at e; omega))⟩, by simp, hF', ?_, ?_⟩
  · refine hM'.cons ha ?_ (fun _ id' arr' b o z o' z' hne hg hm h2 h3 => ?_)
    · simp only [ArrRel, hl]
      exact ⟨c, t, hb, hbase, hok, by simpa using hn, trivial, hc.mono hle.ok hle.blk⟩
    · rw [hl] at h2
      obtain ⟨rfl, -⟩ := Prod.mk.inj (Option.some.inj h2)
      exact hfar id' arr' _ o' z' hne hg hm h3 rfl
  · have := Rep.own (E := E.new c t nx n) nx 0 xs.length _ 0 n cap ha hl hlen ⟨c, t, _, hb, by simpa using hcap⟩
    simpa using this

theorem constCell_repP (w : World) (ok : Nat → Prop) (v : Value) : RepP w ok (constCell v) v := by
  unfold constCell
  split
  · exact .nil
  · exact .sc _

theorem makeSlice_sound {E : Env} {P : Program} {w0 : World} {okb : Nat → Prop} {s : AS} {t : TypeId} {l c : AV} {x y : Value} {r : Res} (hF : Frm E w0 okb) (hM : MemRel E w0.heap.size s.mem)
    (hx : Rep E l x) (hy : Rep E c y) (h : makeSliceE P s t l c = some r) (hid : ∀ id, s.nx ≤ id → id < r.nx → ¬ E.al id) : ∃ y' E', (Instr.makeSlice t x y).run P E.w = .ok y' E'.w ∧ Stepped E w0 okb s.mem s.nx r y' E' := by
  unfold makeSliceE at h
  split at h
  · rename_i e l c he
    obtain rfl := hx.sc_inv
    obtain rfl := hy.sc_inv
    split at h
    · rename_i g n z b hz hzero hbytes
      split at h
      · rename_i hcond
        obtain ⟨hlc, h0, hlim, hmax, hzl, hn⟩ := hcond
        have hlc2 : l.toNat ≤ c.toNat := by omega
        obtain rfl := Option.some.inj h
        obtain ⟨i, v, hi, hzv, rfl, h1⟩ := tzero_inv hzero
        obtain ⟨i', hi', hsize⟩ := tsz_info hz
        obtain rfl : i = i' := by rw [hi] at hi'; exact Option.some.inj hi'
        have hbi : i.bytes = b := by unfold tbytes at hbytes; rw [hi] at hbytes; simpa using hbytes
        have hrun := run_make (P := P) E.w t e i v (telem_inv he) hi hzv .i64 .i64 l c h0 hlc (by rw [hbi, Int.mul_comm]; simp only [lim] at hlim; omega) hmax
        have hvs : v.cells.size = n := by simpa using hzl
        have hcells : Cells E.w E.ok (madeCells v.cells (c.toNat * i.size)) 0 n (List.replicate l.toNat (v.cells.toList.map constCell)) := by
          intro k cs hk
          rw [List.getElem?_replicate] at hk
          split at hk
          · rename_i hkl
            obtain rfl := Option.some.inj hk
            refine ⟨hzl, fun j a hj => ?_⟩
            have hjn : j < n := by rw [← hzl]; exact (List.getElem?_eq_some_iff.1 hj).1
            simp only [List.getElem?_map, Option.map_eq_some_iff] at hj
            obtain ⟨u, hu, rfl⟩ := hj
            refine ⟨u, ?_, (List.all_eq_true.1 h1) u (List.mem_of_getElem? hu), constCell_repP _ _ u⟩
            have hlt : k * n + j < c.toNat * n := idx_lt (Nat.lt_of_lt_of_le hkl hlc2) hjn
            rw [hsize]
            simp only [madeCells, Nat.zero_add, Array.getElem?_map, Array.getElem?_range, hlt, if_true, Option.map_some, hvs, (divmod (i := k) hjn).2]
            congr 1
            have : v.cells[j]? = some u := by simpa using hu
            simp [getElem!_def, this]
          · exact absurd hk (by simp)
        obtain ⟨E', hw, hS⟩ := row_new (nx := s.nx) (t := e) (cap := c.toNat) hF hM (hid s.nx (Nat.le_refl _) (by simp)) hcells (by rw [size_madeCells, hsize]; exact Nat.le_refl _) (by simpa using hlc2)
        refine ⟨_, E', by rw [hw]; exact hrun, ?_⟩
        simpa using hS
      · exact absurd h (by simp)
    · exact absurd h (by simp)
  · exact absurd h (by simp)

theorem elems_sound {E : Env} {n : Nat} : ∀ {ps : List (Nat × AV)} {pv : List (Nat × Value)} {k : Nat} {xs : List (List AV)}, elems n k ps = some xs → pv.map (·.1) = ps.map (·.1) → Reps E (ps.map (·.2)) (pv.map (·.2)) →
    pv = ((pv.map (·.2)).zipIdx k).map (fun x => (x.2, x.1)) ∧ xs.length = pv.length ∧ ∀ (i : Nat) (cs : List AV), xs[i]? = some cs → cs.length = n ∧ ∃ v, (pv.map (·.2))[i]? = some v ∧ Ones E cs v.cells.toList
  | [], pv, k, xs, h, hi, hr => by
    obtain rfl : pv = [] := by simpa using hi
    obtain rfl := Option.some.inj h
    exact ⟨rfl, rfl, by simp⟩
  | (i, v) :: ps, pv, k, xs, h, hi, hr => by
    cases pv with
    | nil => simp at hi
    | cons p pv =>
      obtain ⟨i', x⟩ := p
      simp only [List.map_cons, List.cons.injEq] at hi
      obtain ⟨rfl, hi⟩ := hi
      unfold elems at h
      split at h
      · rename_i vs xs' hv hrest
        split at h
        · rename_i hc
          obtain ⟨rfl, hn⟩ := hc
          obtain rfl := Option.some.inj h
          obtain ⟨cv, hxc, h1, hrc⟩ := cells_sound hv (hr.2 0 v x rfl rfl)
          obtain ⟨q1, q2, q3⟩ := elems_sound hrest hi (drop_reps hr 1)
          refine ⟨by simp only [List.map_cons, List.zipIdx_cons]; rw [← q1], by simp [q2], fun j cs hj => ?_⟩
          cases j with
          | zero => simp at hj; subst hj; exact ⟨hn, x, rfl, by rw [hxc]; exact ⟨hrc, h1⟩⟩
          | succ j => exact q3 j cs (by simpa using hj)
        · exact absurd h (by simp)
      · exact absurd h (by simp)

theorem pureRows_sound {w0 : World} {okb : Nat → Prop} : ∀ {xs xs' : List (List AV)} {E : Env} {mem d : List (Nat × Arr)} {rd : List Nat} {vs : List (List Value)}, Frm E w0 okb → MemRel E w0.heap.size mem → vs.length = xs.length →
    (∀ (i : Nat) (cs : List AV) (v : List Value), xs[i]? = some cs → vs[i]? = some v → Ones E cs v) → pureRows mem xs = some (xs', d, rd) →
    ∃ E', Frozen E w0 okb (d ++ mem) E' ∧ xs'.length = xs.length ∧ ∀ (i : Nat) (cs : List AV) (v : List Value), xs'[i]? = some cs → vs[i]? = some v → OnesP E'.w E'.ok cs v
  | [], xs', E, mem, d, rd, vs, hF, hM, hl, ho, h => by
    simp only [pureRows, Option.some.injEq, Prod.mk.injEq] at h
    obtain ⟨rfl, rfl, rfl⟩ := h
    exact ⟨E, .refl hF hM, rfl, by simp⟩
  | c :: r, xs', E, mem, d, rd, vs, hF, hM, hl, ho, h => by
    cases vs with
    | nil => simp at hl
    | cons v vs =>
      unfold pureRows at h
      split at h
      · rename_i c' d1 rd1 hc
        split at h
        · rename_i r' d2 rd2 hr
          simp only [Option.some.injEq, Prod.mk.injEq] at h
          obtain ⟨rfl, rfl, rfl⟩ := h
          obtain ⟨E1, f1, p1⟩ := pureCells_sound hF hM (ho 0 c v rfl rfl) hc
          obtain ⟨E2, f2, q2, p2⟩ := pureRows_sound f1.frm f1.mem (by simpa using hl) (fun i cs v h1 h2 => (ho (i + 1) cs v (by simpa using h1) (by simpa using h2)).mono f1.le) hr
          refine ⟨E2, by rw [List.append_assoc]; exact f1.trans f2, by simp [q2], fun j cs v' hj hv => ?_⟩
          cases j with
          | zero => simp at hj hv; subst hj hv; exact p1.mono f2.le.ok f2.le.blk
          | succ j => exact p2 j cs v' (by simpa using hj) (by simpa using hv)
        · exact absurd h (by simp)
      · exact absurd h (by simp)

theorem buildSlice_sound {E : Env} {P : Program} {w0 : World} {okb : Nat → Prop} {s : AS} {t : TypeId} {len : Nat} {ps : List (Nat × AV)} {pv : Array (Nat × Value)} {r : Res} (hF : Frm E w0 okb) (hM : MemRel E w0.heap.size s.mem)
    (hi : pv.toList.map (·.1) = ps.map (·.1)) (hr : Reps E (ps.map (·.2)) (pv.toList.map (·.2))) (h : buildSliceE P s t len ps = some r) (hid : ∀ id, s.nx ≤ id → id < r.nx → ¬ E.al id) :
    ∃ y E', (Instr.buildSlice t len pv).run P E.w = .ok y E'.w ∧ Stepped E w0 okb s.mem s.nx r y E' := by
  unfold buildSliceE at h
  split at h
  · rename_i e he
    split at h
    · rename_i g n z hz hzero
      split at h
      · rename_i hcond
        obtain ⟨hzl, hn, hsmall, hpl⟩ := hcond
        split at h
        · rename_i xs hxs
          split at h
          · rename_i xs' d rd hpr
            obtain rfl := Option.some.inj h
            obtain ⟨q1, q2, q3⟩ := elems_sound hxs hi hr
            have hplen : pv.toList.length = len := by
              have := congrArg List.length hi
              simpa [hpl] using this
            have hlenx : xs.length = len := by rw [q2, hplen]
            obtain ⟨E1, f1, p1, p2⟩ := pureRows_sound (vs := pv.toList.map fun p => p.2.cells.toList) hF hM (by simp [q2]) (fun i cs v h1 h2 => by
              obtain ⟨_, u, hu, ho⟩ := q3 i cs h1
              simp only [List.getElem?_map, Option.map_eq_some_iff] at hu h2
              obtain ⟨a, ha, rfl⟩ := hu
              obtain ⟨a', ha', rfl⟩ := h2
              rw [ha] at ha'
              obtain rfl := Option.some.inj ha'
              exact ho) hpr
            obtain ⟨i, v, hinfo, hzv, rfl, h1⟩ := tzero_inv hzero
            obtain ⟨i', hi', hsize⟩ := tsz_info hz
            obtain rfl : i = i' := by rw [hinfo] at hi'; exact Option.some.inj hi'
            have hvc : ∀ u ∈ pv.toList.map (·.2), u.cells.size = n := by
              intro u hu
              obtain ⟨k, hk⟩ := List.getElem?_of_mem hu
              have hkl : k < xs.length := by have := (List.getElem?_eq_some_iff.1 hk).1; simp at this; rw [q2]; simpa using this
              obtain ⟨hcl, u', hu', ho⟩ := q3 k _ (List.getElem?_eq_getElem hkl)
              rw [hk] at hu'
              obtain rfl := Option.some.inj hu'
              have := ho.1.1
              rw [Array.length_toList] at this
              rw [this, hcl]
            let c : Array Value := ((pv.toList.map (·.2)).flatMap fun v => v.cells.toList).toArray
            have hcsz : c.size = len * n := by
              have : ∀ (l : List Value), (∀ u ∈ l, u.cells.size = n) → (l.flatMap fun v => v.cells.toList).length = l.length * n := by
                intro l
                induction l with
                | nil => intro _; simp
                | cons a l ih => intro hl; rw [List.flatMap_cons, List.length_append, ih (fun u hu => hl u (List.mem_cons_of_mem _ hu)), Array.length_toList, hl a List.mem_cons_self, List.length_cons, Nat.add_mul]; omega
              show (List.toArray _).size = _
              rw [List.size_toArray, this _ hvc, List.length_map, hplen]
            have hrun : (Instr.buildSlice t len pv).run P E.w = .ok (.slice (some ⟨E.w.heap.size, 0, none⟩) len len) (E.w.alloc (.cells c e)) := by
              by_cases h0 : len = 0
              · subst h0
                have hpe : pv.toList = [] := List.length_eq_zero_iff.1 hplen
                have hce : c = #[] := by show (List.toArray _) = _; rw [hpe]; rfl
                rw [hce]
                simp [Instr.buildSlice, run_underlying (telem_inv he), sizeOf, typeInfo, hinfo, hpe, Instr.fill, newRow, Array.range_zero']
              · have hpos : 0 < len * n := Nat.mul_pos (by omega) hn
                have hfill := fill_whole hn (pv.toList.map (·.2)) ((Array.range (len * i.size)).map (v.cells[· % v.cells.size]!)) hvc (by simp [hsize]; rw [← Array.length_toList, hplen])
                rw [← q1, ← hsize] at hfill
                rw [← hsize] at hpos hsmall
                have hs2 : ¬ (16777216 < len * i.size) := by omega
                have hp2 : ¬ (len * i.size = 0) := by omega
                simp only [Instr.buildSlice, Sem.run_bind, run_underlying (telem_inv he), Result.andThen_ok, sizeOf, typeInfo, zeroValue, run_program, hinfo, hzv, Sem.run_pure, Nat.reducePow, gt_iff_lt, hs2, hp2, if_false, Sem.run_ite, hfill, newRow, run_newObj]
                rfl
            have hcells : Cells E1.w E1.ok c 0 n xs' := by
              intro k cs hk
              have hkl : k < xs.length := by rw [← p1]; exact (List.getElem?_eq_some_iff.1 hk).1
              obtain ⟨hcl, u, hu, ho⟩ := q3 k _ (List.getElem?_eq_getElem hkl)
              have hP := p2 k cs u.cells.toList hk (by simp only [List.getElem?_map, Option.map_eq_some_iff] at hu ⊢; obtain ⟨a, ha, rfl⟩ := hu; exact ⟨a, ha, rfl⟩)
              have hu2 := hvc u (List.mem_of_getElem? hu)
              have hcs : cs.length = n := by rw [← hP.1, Array.length_toList, hu2]
              refine ⟨hcs, fun j a hj => ?_⟩
              have hjn : j < n := by rw [← hcs]; exact (List.getElem?_eq_some_iff.1 hj).1
              obtain ⟨y, hy⟩ : ∃ y, u.cells.toList[j]? = some y := ⟨_, List.getElem?_eq_getElem (by rw [Array.length_toList, hu2]; exact hjn)⟩
              refine ⟨y, ?_, hP.2.2 y (List.mem_of_getElem? hy), hP.2.1 j a y hj hy⟩
              show (List.toArray _)[_]? = _
              rw [List.getElem?_toArray, Nat.zero_add, flat_get hn _ hvc, (divmod (i := k) hjn).1, (divmod (i := k) hjn).2, hu]
              simpa using hy
            obtain ⟨E2, hw, hS⟩ := row_new (nx := s.nx) (t := e) (cap := len) f1.frm f1.mem (by rw [f1.al]; exact hid s.nx (Nat.le_refl _) (by simp)) hcells (by rw [hcsz]; exact Nat.le_refl _) (by rw [p1, hlenx]; exact Nat.le_refl _)
            refine ⟨_, E2, by rw [hw, f1.w]; exact hrun, ?_⟩
            have := Stepped.after (rd := rd) f1 hS
            rw [p1, hlenx, f1.w] at this
            exact this
          · exact absurd h (by simp)
        · exact absurd h (by simp)
      · exact absurd h (by simp)
    · exact absurd h (by simp)
  · exact absurd h (by simp)
end Go.Ab
end

section
namespace Go.Ab
open Go.RowKit (Below)

theorem splice_get {l v : List Value} {p q : Nat} (hp : p + v.length ≤ l.length) : (l.take p ++ v ++ l.drop (p + v.length))[q]? = if q < p then l[q]? else if q < p + v.length then v[q - p]? else l[q]? := by
  simp only [List.append_assoc, List.getElem?_append, List.length_take, List.getElem?_take, List.getElem?_drop]
  have e : min p l.length = p := by omega
  rw [e]
  by_cases h1 : q < p
  · simp [h1]
  · rw [if_neg h1, if_neg h1]
    by_cases h2 : q < p + v.length
    · rw [if_pos (by omega), if_pos h2]
    · rw [if_neg (by omega), if_neg h2]
      congr 1
      omega

theorem store_sound {E : Env} {P : Program} {w0 : World} {okb : Nat → Prop} {s : AS} {t : TypeId} {p v : AV} {x y : Value} {r : Res} (hF : Frm E w0 okb) (hM : MemRel E w0.heap.size s.mem)
    (hx : Rep E p x) (hy : Rep E v y) (h : storeE P s t p v = some r) : ∃ E', (Instr.storeAt t x y).run P E.w = .ok () E'.w ∧ Stepped E w0 okb s.mem s.nx r undef E' := by
  unfold storeE at h
  split at h
  · rename_i g n vs id i j hz hvs
    split at h
    · rename_i hn
      obtain ⟨cv, hyc, h1, hrv⟩ := cells_sound hvs hy
      have hcvn : cv.length = n := by rw [hrv.1, hn]
      obtain ⟨ha, b, o, z, hl, rfl⟩ := hx.ptr_inv
      have hrun : ∀ (c : Array Value) (ty : TypeId), E.w.heap[b]? = some (.cells c ty (0, 0)) → o + i * z + j + cv.length ≤ c.size →
          (Instr.storeAt t (.pointer (some ⟨b, o + i * z + j, none⟩)) y).run P E.w = .ok () (E.w.setRow b (c.toList.take (o + i * z + j) ++ cv ++ c.toList.drop (o + i * z + j + cv.length)).toArray) := by
        intro c ty hb hle
        have hs := run_storeCells_at (P := P) b (o + i * z + j) ty cv 0 c E.w hb (by omega) h1
        have hcs : y.cells.size = n := by rw [hyc]; simpa using hcvn
        have hct : y.cells.toList = cv := by rw [hyc]
        simp only [Instr.storeAt, Instr.sureAddr, storeVar, Sem.run_bind, Sem.run_pure, Result.andThen_ok, run_sizeOf_tsz hz, hcs, ne_eq, not_true_eq_false, if_false, hct]
        simpa using hs
      split at h
      · rename_i bs hg
        split at h
        · rename_i hi0
          subst hi0
          split at h
          · rename_i cs' hsp
            obtain rfl := Option.some.inj h
            obtain ⟨b', c, ty, hl', hb, hbase, hnok, hsz, hc⟩ := (hM.arr id _ hg).2
            rw [hl] at hl'
            obtain ⟨rfl, rfl, rfl⟩ : b = b' ∧ o = 0 ∧ z = 0 := by simpa using hl'
            have hjl : j + cv.length ≤ c.size := by
              unfold splice at hsp
              split at hsp
              · rw [hsz, hrv.1]; assumption
              · exact absurd hsp (by simp)
            have hbs : Ones E bs c.toList := ⟨⟨by simp [hsz], fun q a u hq hu => by
                obtain ⟨u', e1, _, e3⟩ := hc q a hq
                rw [Array.getElem?_toList] at hu
                rw [hu] at e1
                obtain rfl := Option.some.inj e1
                exact e3⟩, fun u hu => by
                obtain ⟨q, hq⟩ := List.getElem?_of_mem hu
                rw [Array.getElem?_toList] at hq
                obtain ⟨u', e1, e2, _⟩ := hc q _ (List.getElem?_eq_getElem (by have := (Array.getElem?_eq_some_iff.1 hq).1; omega))
                rw [hq] at e1
                obtain rfl := Option.some.inj e1
                exact e2⟩
            have hsp' := splice_ones hsp hbs ⟨hrv, h1⟩
            let c' := (c.toList.take j ++ cv ++ c.toList.drop (j + cv.length)).toArray
            have hcs : c'.size = c.size := by simp [c']; omega
            obtain ⟨hle, hF', hat, hmem⟩ := set_block hF hM hg rfl hl hb hbase hnok hcs
            refine ⟨_, by have := hrun c ty hb (by simpa using hjl); simpa [c', Env.set] using this, hle, fun id' => ⟨.inl, fun h => h.elim (fun h => h) (fun h => by simp only at h; omega)⟩, by simp, hF', hmem _ ?_, .pure (.jk _)⟩
            have ho := hsp'.mono hle
            have hlc : c'.size = cs'.length := by have := hsp'.1.1; simpa [c'] using this
            refine ⟨b, c', ty, hl, hat, hbase, hnok, hlc, fun q a hq => ?_⟩
            obtain ⟨u, e1, e2, e3⟩ := ho.get hq
            exact ⟨u, by simpa [c'] using e1, e2, e3⟩
          · exact absurd h (by simp)
        · exact absurd h (by simp)
      · rename_i sz xs hg
        split at h
        · rename_i vs' d rd cs hpc hxi
          split at h
          · rename_i hd
            split at h
            · rename_i cs' hsp
              obtain rfl := Option.some.inj h
              have hxlen : 0 < xs.length := by have := (List.getElem?_eq_some_iff.1 hxi).1; omega
              have hzz : z = sz := row_loc hM (.inl hg) hl
              subst hzz
              obtain ⟨E1, f1, p1⟩ := pureCells_sound hF hM ⟨hrv, h1⟩ hpc
              have hg1 : get (d ++ s.mem) id = some (.row z xs) := by
                have : ∀ (d : List (Nat × Arr)), d.all (fun x => x.1 != id) = true → get (d ++ s.mem) id = get s.mem id := by
                  intro d
                  induction d with
                  | nil => intro _; rfl
                  | cons a d ih =>
                    intro hd
                    simp only [List.all_cons, Bool.and_eq_true, bne_iff_ne, ne_eq] at hd
                    rw [List.cons_append, get_cons, if_neg hd.1]
                    exact ih hd.2
                rw [this d hd, hg]
              have hl1 : E1.loc id = some (b, o, z) := by rw [f1.loc, hl]
              have hr := (f1.mem.arr id _ hg1).2
              simp only [ArrRel, hl1] at hr
              obtain ⟨c, ty, hb, hbase, hnok, hsz, hzc, hc⟩ := hr
              have hi : i < xs.length := (List.getElem?_eq_some_iff.1 hxi).1
              have hcsl : cs.length = z := (hc i cs hxi).1
              have hvl : vs'.length = cv.length := p1.1.symm
              have hj : j + cv.length ≤ z := by
                unfold splice at hsp
                split at hsp
                · rw [← hvl, ← hcsl]; assumption
                · exact absurd hsp (by simp)
              have hbnd : o + i * z + j + cv.length ≤ c.size := by
                have : (i + 1) * z ≤ xs.length * z := Nat.mul_le_mul_right z hi
                rw [Nat.add_mul] at this
                omega
              let c' := (c.toList.take (o + i * z + j) ++ cv ++ c.toList.drop (o + i * z + j + cv.length)).toArray
              have hcs : c'.size = c.size := by simp [c']; omega
              obtain ⟨hle, hF', hat, hmem⟩ := set_block f1.frm f1.mem hg1 rfl hl1 hb hbase hnok hcs
              have hrun' := hrun c ty (by rw [← f1.w]; exact hb) hbnd
              have hcell : ∀ q, c'[q]? = if q < o + i * z + j then c[q]? else if q < o + i * z + j + cv.length then cv[q - (o + i * z + j)]? else c[q]? := by
                intro q
                have := splice_get (l := c.toList) (v := cv) (p := o + i * z + j) (q := q) (by simpa using hbnd)
                simpa [c'] using this
              have hS : Stepped E1 w0 okb (d ++ s.mem) s.nx ⟨.jk, [(id, .row z (xs.set i cs'))], s.nx, []⟩ undef (E1.set b c') := by
                refine ⟨hle, fun id' => ⟨.inl, fun h => h.elim (fun h => h) (fun h => by simp only at h; omega)⟩, by simp, hF', hmem _ ?_, .pure (.jk _)⟩
                simp only [ArrRel]
                rw [show (E1.set b c').loc id = some (b, o, z) from hl1]
                refine ⟨c', ty, hat, hbase, hnok, by rw [List.length_set, hcs]; exact hsz, rfl, ?_⟩
                have hcm : Cells (E1.set b c').w (E1.set b c').ok c o z xs := hc.mono hle.ok hle.blk
                have hlow : ∀ {k m : Nat}, m < z → k < i → o + k * z + m < o + i * z := by
                  intro k m hm hk
                  have := idx_lt (s := z) hk hm
                  omega
                have hhigh : ∀ {k : Nat}, i < k → o + i * z + z ≤ o + k * z := by
                  intro k hk
                  have : (i + 1) * z ≤ k * z := Nat.mul_le_mul_right z hk
                  rw [Nat.add_mul] at this
                  omega
                intro k row hk
                rw [List.getElem?_set] at hk
                split at hk
                · rename_i hik
                  subst hik
                  obtain rfl := Option.some.inj hk
                  unfold splice at hsp
                  split at hsp
                  · rename_i hle2
                    obtain rfl := Option.some.inj hsp
                    refine ⟨by simp; omega, fun m a hm => ?_⟩
                    rw [hcell]
                    rw [List.append_assoc, List.getElem?_append] at hm
                    split at hm
                    · rename_i hm1
                      have hmj : m < j := by simp at hm1; omega
                      rw [if_pos (by omega)]
                      rw [List.getElem?_take, if_pos hmj] at hm
                      exact (hcm i cs hxi).2 m a hm
                    · rename_i hm1
                      have hmj : ¬ m < j := by simp at hm1; omega
                      rw [if_neg (by omega)]
                      have htl : (cs.take j).length = j := by simp; omega
                      rw [htl, List.getElem?_append] at hm
                      split at hm
                      · rename_i hm2
                        rw [if_pos (by omega), show o + i * z + m - (o + i * z + j) = m - j by omega]
                        obtain ⟨u, hu⟩ : ∃ u, cv[m - j]? = some u := ⟨_, List.getElem?_eq_getElem (by omega)⟩
                        exact ⟨u, hu, p1.2.2 u (List.mem_of_getElem? hu), (p1.2.1 _ a u hm hu).mono hle.ok hle.blk⟩
                      · rename_i hm2
                        rw [if_neg (by omega)]
                        rw [List.getElem?_drop, show j + vs'.length + (m - j - vs'.length) = m by omega] at hm
                        exact (hcm i cs hxi).2 m a hm
                  · exact absurd hsp (by simp)
                · rename_i hik
                  obtain ⟨hl2, hcc⟩ := hcm k row hk
                  refine ⟨hl2, fun m a hm => ?_⟩
                  have hmz : m < z := by rw [← hl2]; exact (List.getElem?_eq_some_iff.1 hm).1
                  obtain ⟨u, e1, e2, e3⟩ := hcc m a hm
                  refine ⟨u, ?_, e2, e3⟩
                  rw [hcell]
                  rcases Nat.lt_or_gt_of_ne (fun e : k = i => hik e.symm) with hlt | hgt
                  · have := hlow hmz hlt
                    rw [if_pos (by omega)]; exact e1
                  · have := hhigh hgt
                    rw [if_neg (by omega), if_neg (by omega)]; exact e1
              refine ⟨E1.set b c', ?_, ?_⟩
              · rw [hrun']
                show _ = Result.ok () (E1.w.setRow b c')
                rw [f1.w]
              · exact Stepped.after f1 hS
            · exact absurd h (by simp)
          · exact absurd h (by simp)
        · exact absurd h (by simp)
      · exact absurd h (by simp)
    · exact absurd h (by simp)
  · exact absurd h (by simp)
end Go.Ab
end
