/- The abstract interpreter: append and copy. -/
import Derived.Test.YtjbodjmkfklleaaDoorAb15
set_option linter.unusedVariables false
set_option linter.unusedSimpArgs false
set_option linter.unusedSectionVars false

section
namespace Go.Ab
open Go.RowKit (Below)

def Env.draw (E : Env) : Env := { E with w := E.w.drew }
theorem draw_le (E : Env) : E.Le E.draw := ⟨fun _ h => h, fun _ _ => rfl, fun _ h => ⟨h, rfl⟩, fun _ c t f h => ⟨c, f, h, rfl⟩⟩
theorem draw_frm {E : Env} {w0 : World} {okb : Nat → Prop} (hF : Frm E w0 okb) : Frm E.draw w0 okb := ⟨hF.below.drew, hF.okb, hF.lt⟩
theorem draw_mem {E : Env} {base : Nat} {mem : List (Nat × Arr)} (hM : MemRel E base mem) : MemRel E.draw base mem := by
  refine hM.mono (draw_le E) fun id arr hg hm b o z hl => ⟨rfl, ?_⟩
  have hr := (hM.arr id arr hg).2
  cases arr with
  | row sz xs => simp only [ArrRel, hl] at hr; obtain ⟨_, _, _, _, h, _⟩ := hr; exact h
  | box cs => obtain ⟨b2, c2, t2, h2, _, _, h, _⟩ := hr; rw [hl] at h2; obtain ⟨rfl, -⟩ := Prod.mk.inj (Option.some.inj h2); exact h
  | frz _ _ => cases hm
  | dead => cases hm

/-- A new number for the nil slice. -/
def Env.nilNew (E : Env) (id : Nat) : Env := { E with loc := fun i => if i = id then none else E.loc i, al := fun i => E.al i ∨ i = id }
/-- A number that takes over another's block. -/
def Env.takes (E : Env) (id b o z : Nat) : Env := { E with loc := fun i => if i = id then some (b, o, z) else E.loc i, al := fun i => E.al i ∨ i = id }

theorem relabel {E E' : Env} {base : Nat} {mem : List (Nat × Arr)} (hM : MemRel E base mem) (hw : E'.w = E.w) (hok : E'.ok = E.ok) {id : Nat} (hid : ¬ E.al id) (hloc : ∀ i, i ≠ id → E'.loc i = E.loc i) (hal : ∀ i, E.al i → E'.al i) :
    E.Le E' ∧ MemRel E' base mem := by
  have hle : E.Le E' := ⟨fun b h => by rw [hok]; exact h, fun b _ => by rw [hw], fun i hi => ⟨hal i hi, hloc i (by rintro rfl; exact hid hi)⟩, fun b c t f h => ⟨c, f, by rw [hw]; exact h, rfl⟩⟩
  refine ⟨hle, hM.mono hle fun i arr hg hm b o z hl => ⟨by rw [hw], ?_⟩⟩
  rw [hok]
  have hr := (hM.arr i arr hg).2
  cases arr with
  | row sz xs => simp only [ArrRel, hl] at hr; obtain ⟨_, _, _, _, h, _⟩ := hr; exact h
  | box cs => obtain ⟨b2, c2, t2, h2, _, _, h, _⟩ := hr; rw [hl] at h2; obtain ⟨rfl, -⟩ := Prod.mk.inj (Option.some.inj h2); exact h
  | frz _ _ => cases hm
  | dead => cases hm

theorem nil_new {E : Env} {w0 : World} {okb : Nat → Prop} {mem : List (Nat × Arr)} {nx n : Nat} (hF : Frm E w0 okb) (hM : MemRel E w0.heap.size mem) (hid : ¬ E.al nx) :
    Stepped E w0 okb mem nx ⟨.own nx 0 0, [(nx, .row n [])], nx + 1, []⟩ (.slice none 0 0) (E.nilNew nx) := by
  obtain ⟨hle, hM'⟩ := relabel (E' := E.nilNew nx) hM rfl rfl hid (fun i hi => if_neg hi) (fun i h => .inl h)
  have hl : (E.nilNew nx).loc nx = none := if_pos rfl
  refine ⟨hle, fun id => ⟨fun h => h.elim .inl (fun e => .inr (by simp only; omega)), fun h => h.elim .inl (fun e => .inr (by simp only at e; omega))⟩, by simp, ⟨hF.below, hF.okb, hF.lt⟩, ?_, .ownNil nx (.inr rfl) hl⟩
  refine hM'.cons (.inr rfl) ?_ (fun _ id' arr' b o z o' z' hne hg hm h2 h3 => ?_)
  · simp only [ArrRel, hl]
  · rw [hl] at h2; cases h2

/-- An append that makes a new block. -/
theorem append_new {E : Env} {w0 : World} {okb : Nat → Prop} {mem : List (Nat × Arr)} {nx n cap : Nat} {e : TypeId} {xs es : List (List AV)} {f g : Nat → Value} {rest : Array Value} (hF : Frm E w0 okb) (hM : MemRel E w0.heap.size mem) (hid : ¬ E.al nx) (hn : 0 < n)
    (hz1 : ∀ (i : Nat) (cs : List AV), xs[i]? = some cs → cs.length = n) (hz2 : ∀ (i : Nat) (cs : List AV), es[i]? = some cs → cs.length = n)
    (h1 : ∀ (i : Nat) (cs : List AV) (j : Nat) (a : AV), xs[i]? = some cs → cs[j]? = some a → (f (i * n + j)).oneCell' = true ∧ RepP E.w E.ok a (f (i * n + j)))
    (h2 : ∀ (i : Nat) (cs : List AV) (j : Nat) (a : AV), es[i]? = some cs → cs[j]? = some a → (g (i * n + j)).oneCell' = true ∧ RepP E.w E.ok a (g (i * n + j)))
    (hcap : xs.length + es.length ≤ cap) (hrest : rest.size = (cap - (xs.length + es.length)) * n) :
    ∃ E', E'.w = E.w.drew.alloc (.cells (((List.range (xs.length * n)).map f).toArray ++ ((List.range (es.length * n)).map g).toArray ++ rest) e) ∧
      Stepped E w0 okb mem nx ⟨.own nx 0 (xs.length + es.length), [(nx, .row n (xs ++ es))], nx + 1, []⟩ (.slice (some ⟨E.w.heap.size, 0, none⟩) (xs.length + es.length) cap) E' := by
  have hcells : Cells E.draw.w E.draw.ok (((List.range (xs.length * n)).map f).toArray ++ ((List.range (es.length * n)).map g).toArray ++ rest) 0 n (xs ++ es) := by
    intro i cs hi
    rw [List.getElem?_append] at hi
    split at hi
    · rename_i hlt
      refine ⟨hz1 i cs hi, fun j a hj => ?_⟩
      have hjn : j < n := by rw [← hz1 i cs hi]; exact (List.getElem?_eq_some_iff.1 hj).1
      have hk := idx_lt hlt hjn
      refine ⟨f (i * n + j), ?_, (h1 i cs j a hi hj).1, (h1 i cs j a hi hj).2.mono (draw_le E).ok (draw_le E).blk⟩
      rw [Array.getElem?_append, if_pos (by simp; omega), Array.getElem?_append, if_pos (by simp; omega)]
      simp [hk]
    · rename_i hge
      refine ⟨hz2 _ cs hi, fun j a hj => ?_⟩
      have hjn : j < n := by rw [← hz2 _ cs hi]; exact (List.getElem?_eq_some_iff.1 hj).1
      have hlt : i - xs.length < es.length := (List.getElem?_eq_some_iff.1 hi).1
      have hk := idx_lt hlt hjn
      have he : i * n + j = xs.length * n + ((i - xs.length) * n + j) := by
        rw [← Nat.add_assoc, ← Nat.add_mul]
        congr 2
        omega
      refine ⟨g ((i - xs.length) * n + j), ?_, (h2 _ cs j a hi hj).1, (h2 _ cs j a hi hj).2.mono (draw_le E).ok (draw_le E).blk⟩
      rw [Nat.zero_add, he, Array.getElem?_append, if_pos (by simp; omega), Array.getElem?_append, if_neg (by simp)]
      simp [hk]
  obtain ⟨E', hw, hS⟩ := row_new (nx := nx) (t := e) (cap := cap) (draw_frm hF) (draw_mem hM) hid hcells (by
    simp only [Array.size_append, List.size_toArray, List.length_map, List.length_range, hrest]
    rw [← Nat.add_mul, ← Nat.add_mul]
    exact Nat.mul_le_mul_right n (by omega)) (by simpa using hcap)
  refine ⟨E', hw, ?_⟩
  have := hS
  rw [List.length_append] at this
  exact ⟨(draw_le E).trans this.le, this.al, this.nx, this.frm, this.mem, this.rep⟩

theorem tzero_size {P : Program} {e : TypeId} {z : List AV} {n : Nat} (h : tzero P e = some z) (hz : z.length = n) : ∃ i v, P.info? e = some i ∧ i.zero = some v ∧ v.cells.size = n := by
  obtain ⟨i, v, hi, hzv, rfl, _⟩ := tzero_inv h
  exact ⟨i, v, hi, hzv, by simpa using hz⟩
theorem size_zeroCells (z : Array Value) (n : Nat) : (Builtin.zeroCells z n).size = n * z.size := by simp [Builtin.zeroCells]

theorem append_sound {E : Env} {P : Program} {w0 : World} {okb : Nat → Prop} {s : AS} {t u : TypeId} {v c : AV} {x y : Value} {r : Res} (hF : Frm E w0 okb) (hM : MemRel E w0.heap.size s.mem)
    (hx : Rep E v x) (hy : Rep E c y) (h : appendE P s t v c (tnoint P u) = some r) (hid : ∀ id, s.nx ≤ id → id < r.nx → ¬ E.al id) (ty : TypeId) :
    ∃ y' E', (Builtin.append_ #[t, u] ty #[x, y]).run P E.w = .ok y' E'.w ∧ Stepped E w0 okb s.mem s.nx r y' E' := by
  unfold appendE at h
  split at h
  · rename_i e he
    split at h
    · rename_i g n b z hz hb hzero
      split at h
      · rename_i es rd hsrc
        split at h
        · rename_i hcond
          obtain ⟨hto, hzl, hn, hbpos⟩ := hcond
          obtain ⟨i, zv, hinfo, hzv, hzs⟩ := tzero_size hzero hzl
          have hbi : i.bytes = b := by unfold tbytes at hb; rw [hinfo] at hb; simpa using hb
          obtain ⟨hlen, hes, f2, hf2, hg2⟩ := source_sound (P := P) hM hn hy hsrc
          split at h
          · split at h
            · rename_i hlim
              obtain rfl := Option.some.inj h
              obtain rfl := hx.nil_inv
              by_cases h0 : es.length = 0
              · have hnil : es = [] := List.length_eq_zero_iff.1 h0
                subst hnil
                exact ⟨_, E.nilNew s.nx, run_append_nil ty (telem_inv he) hto hz (by simpa using hlen) (hf2 0 (Nat.le_refl _) E.w rfl), (nil_new (n := n) hF hM (hid s.nx (Nat.le_refl _) (by simp))).rd _⟩
              · obtain ⟨cap, hcap, hrun⟩ := run_append_grow (w := E.w) (base := none) (sLen := 0) (sCap := 0) (co := #[]) ty (telem_inv he) hto hz hinfo hzv (by omega) hlen (by omega) (by rw [hbi, Nat.zero_add]; exact hlim)
                  (fun _ _ => rfl) (hf2 es.length (Nat.le_refl _))
                obtain ⟨E', hw, hS⟩ := append_new (nx := s.nx) (e := e) (cap := cap) (xs := []) (es := es) (f := fun _ => undef) (g := f2) (rest := Builtin.zeroCells zv.cells (cap - (0 + es.length))) hF hM (hid s.nx (Nat.le_refl _) (by simp)) hn (by simp) hes (by simp) hg2 (by simpa using hcap)
                  (by rw [size_zeroCells, hzs]; rfl)
                refine ⟨.slice (some ⟨E.w.heap.size, 0, none⟩) es.length cap, E', by rw [hrun, hw]; simp, ?_⟩
                have := hS.rd rd
                simpa using this
            · exact absurd h (by simp)
          · rename_i id off len
            split at h
            · rename_i sz xs hg
              split at h
              · rename_i hc
                obtain ⟨hlim, rfl, hol⟩ := hc
                obtain rfl := Option.some.inj h
                have hll : ((xs.drop off).take len).length = len := by simp; omega
                have hnx : ¬ E.al s.nx := hid s.nx (Nat.le_refl _) (by simp)
                have hnid : id ≠ s.nx := by rintro rfl; exact hnx (hM.arr _ _ hg).1
                have hdead : ∀ {E' : Env} {m : List (Nat × Arr)}, MemRel E' w0.heap.size m → E'.al id → MemRel E' w0.heap.size ((id, .dead) :: m) := fun hm ha => hm.cons ha trivial (fun h => by cases h)
                have hM1 : MemRel E w0.heap.size ((id, .dead) :: s.mem) := hdead hM (hM.arr id _ hg).1
                rcases hx.own_inv.2 with ⟨hl, rfl, rfl, rfl⟩ | ⟨b', o, z', cap0, hl, rfl, hcap0, c0, t0, fz0, hb0, hroom⟩
                · by_cases h0 : es.length = 0
                  · have hnil : es = [] := List.length_eq_zero_iff.1 h0
                    subst hnil
                    refine ⟨_, E.nilNew s.nx, run_append_nil ty (telem_inv he) hto hz (by simpa using hlen) (hf2 0 (Nat.le_refl _) E.w rfl), ?_⟩
                    have hS := (nil_new (n := sz) hF hM1 hnx).rd (id :: rd)
                    simpa using ⟨hS.le, hS.al, hS.nx, hS.frm, hS.mem, hS.rep⟩
                  · obtain ⟨cap, hcap, hrun⟩ := run_append_grow (w := E.w) (base := none) (sLen := 0) (sCap := 0) (co := #[]) ty (telem_inv he) hto hz hinfo hzv (by omega) hlen (by omega) (by rw [hbi]; exact hlim)
                      (fun _ _ => rfl) (hf2 es.length (Nat.le_refl _))
                    obtain ⟨E', hw, hS⟩ := append_new (nx := s.nx) (e := e) (cap := cap) (xs := []) (es := es) (f := fun _ => undef) (g := f2) (rest := Builtin.zeroCells zv.cells (cap - (0 + es.length))) hF hM1 hnx hn (by simp) hes (by simp) hg2 (by simpa using hcap)
                      (by rw [size_zeroCells, hzs]; rfl)
                    refine ⟨.slice (some ⟨E.w.heap.size, 0, none⟩) es.length cap, E', by rw [hrun, hw]; simp, ?_⟩
                    have := hS.rd (id :: rd)
                    exact ⟨this.le, this.al, this.nx, this.frm, this.mem, by simpa using this.rep⟩
                · have hzz := row_loc hM (.inl hg) hl
                  subst hzz
                  obtain ⟨hz1, hcell1⟩ := row_cells (off := off) (len := len) hM (.inl hg) hl
                  by_cases hfit : len + es.length ≤ cap0
                  · -- in place
                    have hr := (hM.arr id _ hg).2
                    simp only [ArrRel, hl] at hr
                    obtain ⟨c1, t1, hb1, hbase, hnok, hsz, _, hc1⟩ := hr
                    rw [hb0] at hb1
                    obtain ⟨rfl, rfl, rfl⟩ : c0 = c1 ∧ t0 = t1 ∧ fz0 = (0, 0) := by simpa using hb1
                    let cn : List Value := (List.range (es.length * z')).map f2
                    have hcnl : cn.length = es.length * z' := by simp [cn]
                    have hroom2 : o + off * z' + len * z' + cn.length ≤ c0.size := by
                      have : (off + (len + es.length)) * z' ≤ (off + cap0) * z' := Nat.mul_le_mul_right z' (by omega)
                      rw [Nat.add_mul, Nat.add_mul] at this
                      omega
                    have hcn1 : ∀ v ∈ cn, v.oneCell' = true := by
                      intro v hv
                      simp only [cn, List.mem_map, List.mem_range] at hv
                      obtain ⟨k, hk, rfl⟩ := hv
                      have h1 : k / z' < es.length := Nat.div_lt_of_lt_mul (by rw [Nat.mul_comm]; exact hk)
                      have hget : es[k / z']? = some es[k / z'] := List.getElem?_eq_getElem h1
                      have := (hg2 (k / z') _ (k % z') _ hget (List.getElem?_eq_getElem (by rw [hes _ _ hget]; exact Nat.mod_lt _ hn))).1
                      rwa [Nat.div_add_mod'] at this
                    have hst := run_storeCells_at (P := P) b' (o + off * z' + len * z') t0 cn 0 c0 E.w hb0 (by omega) hcn1
                    rw [Nat.add_zero] at hst
                    let c' := (c0.toList.take (o + off * z' + len * z') ++ cn ++ c0.toList.drop (o + off * z' + len * z' + cn.length)).toArray
                    have hst2 : (storeCells ((⟨b', o + off * z', none⟩ : Addr).add (len * z')) ((List.range (es.length * z')).map f2).toArray.toList).run P E.w = .ok () (E.w.setRow b' c') := by rw [addr_add]; exact hst
                    have hrun := run_append_fit (w := E.w) ty (telem_inv he) hto hz hlen hfit (hf2 es.length (Nat.le_refl _) E.w rfl) (a := ⟨b', o + off * z', none⟩) hst2
                    have hcs : c'.size = c0.size := by simp [c']; omega
                    obtain ⟨hle1, hF1, hat, hmem⟩ := set_block hF hM hg rfl hl hb0 hbase hnok hcs
                    have hMd := hmem .dead trivial
                    obtain ⟨hle2, hM2⟩ := relabel (E' := (E.set b' c').takes s.nx b' (o + off * z') z') hMd rfl rfl hnx (fun i hi => if_neg hi) (fun i h => .inl h)
                    have hl2 : ((E.set b' c').takes s.nx b' (o + off * z') z').loc s.nx = some (b', o + off * z', z') := if_pos rfl
                    refine ⟨.slice (some ⟨b', o + off * z', none⟩) (len + es.length) cap0, (E.set b' c').takes s.nx b' (o + off * z') z', ?_, hle1.trans hle2, fun id' => ⟨fun h => h.elim .inl (fun e => .inr (by simp only; omega)), fun h => h.elim .inl (fun e => .inr (by simp only at e; omega))⟩, by simp, ⟨hF1.below, hF1.okb, hF1.lt⟩, ?_, ?_⟩
                    · rw [hrun]; rfl
                    · refine hM2.cons (.inr rfl) ?_ (fun _ id' arr' b2 o2 z2 o3 z3 hne hg' hm h2 h3 => ?_)
                      · simp only [ArrRel, hl2]
                        refine ⟨c', t0, hat, hbase, hnok, ?_, trivial, ?_⟩
                        · rw [List.length_append, hll, hcs, Nat.add_mul]; omega
                        · intro k row hk
                          have hcell : ∀ q, c'[q]? = if q < o + off * z' + len * z' then c0[q]? else if q < o + off * z' + len * z' + cn.length then cn[q - (o + off * z' + len * z')]? else c0[q]? := by
                            intro q
                            have := splice_get (l := c0.toList) (v := cn) (p := o + off * z' + len * z') (q := q) (by simpa using hroom2)
                            simpa [c'] using this
                          rw [List.getElem?_append, hll] at hk
                          split at hk
                          · rename_i hlt
                            refine ⟨hz1 k row hk, fun j a hj => ?_⟩
                            have hjn : j < z' := by rw [← hz1 k row hk]; exact (List.getElem?_eq_some_iff.1 hj).1
                            obtain ⟨y', q1, q2, q3⟩ := hcell1 k row j a hk hj
                            rw [cell_at hb0] at q1
                            have := idx_lt hlt hjn
                            exact ⟨y', by rw [hcell, if_pos (by omega)]; exact q1, q2, q3.mono (hle1.trans hle2).ok (hle1.trans hle2).blk⟩
                          · rename_i hge
                            refine ⟨hes _ row hk, fun j a hj => ?_⟩
                            have hjn : j < z' := by rw [← hes _ row hk]; exact (List.getElem?_eq_some_iff.1 hj).1
                            have hlt : k - len < es.length := (List.getElem?_eq_some_iff.1 hk).1
                            have := idx_lt hlt hjn
                            have hkk : k * z' = len * z' + (k - len) * z' := by rw [← Nat.add_mul]; congr 1; omega
                            obtain ⟨q2, q3⟩ := hg2 _ row j a hk hj
                            refine ⟨_, ?_, q2, q3.mono (hle1.trans hle2).ok (hle1.trans hle2).blk⟩
                            rw [hcell, if_neg (by omega), if_pos (by omega), show o + off * z' + k * z' + j - (o + off * z' + len * z') = (k - len) * z' + j by omega]
                            simp [cn, this]
                      · rw [hl2] at h2
                        obtain ⟨rfl, -⟩ := Prod.mk.inj (Option.some.inj h2)
                        have hl3 : E.loc id' = some (b', o3, z3) := by
                          have : ((E.set b' c').takes s.nx b' (o + off * z') z').loc id' = E.loc id' := if_neg hne
                          rw [this] at h3; exact h3
                        rw [get_cons] at hg'
                        split at hg'
                        · obtain rfl := Option.some.inj hg'; cases hm
                        · rename_i hne2
                          exact hne2 (hM.far id id' _ arr' b' o z' o3 z3 hg hg' rfl hm hl hl3)
                    · have := Rep.own (E := (E.set b' c').takes s.nx b' (o + off * z') z') s.nx 0 (len + es.length) b' (o + off * z') z' cap0 (.inr rfl) hl2 hfit ⟨c', t0, _, hat, by rw [hcs]; rw [Nat.add_mul] at hroom; rw [Nat.zero_add]; omega⟩
                      simpa using this
                  · -- a new block
                    obtain ⟨f1, hf1, hg1⟩ := cells_read (P := P) hn hz1 hcell1
                    have hold : ∀ w' : World, w'.heap = E.w.heap → (Builtin.firstCells z' len (.slice (some ⟨b', o + off * z', none⟩) len cap0)).run P w' = .ok ((List.range (len * z')).map f1).toArray w' :=
                      fun w' hw => hf1 len (by omega) w' hw
                    obtain ⟨cap, hcap, hrun⟩ := run_append_grow (w := E.w) ty (telem_inv he) hto hz hinfo hzv (by omega) hlen (by omega) (by rw [hbi]; exact hlim) hold (hf2 es.length (Nat.le_refl _))
                    obtain ⟨E', hw, hS⟩ := append_new (nx := s.nx) (e := e) (cap := cap) (xs := (xs.drop off).take len) (es := es) (f := f1) (g := f2) (rest := Builtin.zeroCells zv.cells (cap - (len + es.length))) hF hM1 hnx hn hz1 hes hg1 hg2 (by rw [hll]; exact hcap)
                      (by rw [size_zeroCells, hzs, hll])
                    rw [hll] at hw hS
                    refine ⟨_, E', by rw [hrun, hw], ?_⟩
                    have := hS.rd (id :: rd)
                    exact ⟨this.le, this.al, this.nx, this.frm, this.mem, this.rep⟩
              · exact absurd h (by simp)
            · exact absurd h (by simp)
          · exact absurd h (by simp)
        · exact absurd h (by simp)
      · exact absurd h (by simp)
    · exact absurd h (by simp)
  · exact absurd h (by simp)
end Go.Ab
end

section
namespace Go.Ab
open Go.RowKit (Below)

theorem run_copy {P : Program} {t e u : TypeId} {g : Bool} {n m dLen cap : Nat} {x : Value} {w w' : World} {cn : Array Value} {a : Addr} (ty : TypeId) (he : P.underlying t = some (.slice e)) (hz : tsz P e = some (g, n))
    (hlen : (Builtin.lenOf x).run P w = .ok m w) (hnew : (Builtin.firstCells n (min m dLen) x).run P w = .ok cn w) (hst : (storeCells a cn.toList).run P w = .ok () w') :
    (Builtin.copy_ #[t, u] ty #[.slice (some a) dLen cap, x]).run P w = .ok (goInt (min m dLen : Nat)) w' := by
  have hnew' : (Builtin.firstCells n (Nat.min m dLen) x).run P w = .ok cn w := hnew
  simp only [Builtin.copy_, List.getElem?_toArray, List.getElem?_cons_zero, List.getElem?_cons_succ, Sem.run_bind, run_underlying he, Result.andThen_ok, run_sizeOf_tsz hz, hlen, hnew', hst, Sem.run_pure]
theorem run_copy_nil {P : Program} {t e u : TypeId} {g : Bool} {n m : Nat} {x : Value} {w : World} {cn : Array Value} (ty : TypeId) (he : P.underlying t = some (.slice e)) (hz : tsz P e = some (g, n))
    (hlen : (Builtin.lenOf x).run P w = .ok m w) (hnew : (Builtin.firstCells n 0 x).run P w = .ok cn w) :
    (Builtin.copy_ #[t, u] ty #[.slice none 0 0, x]).run P w = .ok (goInt 0) w := by
  simp only [Builtin.copy_, List.getElem?_toArray, List.getElem?_cons_zero, List.getElem?_cons_succ, Sem.run_bind, run_underlying he, Result.andThen_ok, run_sizeOf_tsz hz, hlen, Sem.run_pure, Nat.min_zero, hnew]
  rfl

theorem copy_sound {E : Env} {P : Program} {w0 : World} {okb : Nat → Prop} {s : AS} {t u : TypeId} {v c : AV} {x y : Value} {r : Res} (hF : Frm E w0 okb) (hM : MemRel E w0.heap.size s.mem)
    (hx : Rep E v x) (hy : Rep E c y) (h : copyE P s t v c = some r) (ty : TypeId) :
    ∃ y' E', (Builtin.copy_ #[t, u] ty #[x, y]).run P E.w = .ok y' E'.w ∧ Stepped E w0 okb s.mem s.nx r y' E' := by
  unfold copyE at h
  split at h
  · rename_i g n id off len hzz
    obtain ⟨e, hu, hz⟩ := elem_tsz hzz
    split at h
    · rename_i sz xs es rd hg hsrc
      split at h
      · rename_i hc
        obtain ⟨rfl, hol, hn⟩ := hc
        obtain rfl := Option.some.inj h
        obtain ⟨hlen, hes, f2, hf2, hg2⟩ := source_sound (P := P) hM hn hy hsrc
        have hm1 : min es.length len ≤ es.length := Nat.min_le_left _ _
        have hm2 : min es.length len ≤ len := Nat.min_le_right _ _
        rcases hx.own_inv.2 with ⟨hl, rfl, rfl, rfl⟩ | ⟨b', o, z', cap0, hl, rfl, hcap0, c0', t0', fz0, hb0', hroom⟩
        · have hxe : xs = [] := by have := (hM.arr id _ hg).2; simpa only [ArrRel, hl] using this
          subst hxe
          refine ⟨_, E, run_copy_nil ty hu hz (hlen _) (hf2 0 (Nat.zero_le _) E.w rfl), .refl E, fun id => ⟨.inl, fun h => h.elim (fun h => h) (fun h => by simp only at h; omega)⟩, by simp, hF, ?_, ?_⟩
          · refine hM.cons (hM.arr id _ hg).1 ?_ (fun _ id' arr' b o z o' z' hne hg' hm h2 h3 => by rw [hl] at h2; cases h2)
            simp [ArrRel, hl]
          · rw [Nat.min_zero]; exact .pure (.sc _)
        · have hzz := row_loc hM (.inl hg) hl
          subst hzz
          have hr := (hM.arr id _ hg).2
          simp only [ArrRel, hl] at hr
          obtain ⟨c0, t0, hb0, hbase, hnok, hsz, _, hc1⟩ := hr
          generalize hm : min es.length len = m at *
          let cn : List Value := (List.range (m * z')).map f2
          have hcnl : cn.length = m * z' := by simp [cn]
          have hmz : (off + m) * z' ≤ xs.length * z' := Nat.mul_le_mul_right z' (by omega)
          have hroom2 : o + off * z' + cn.length ≤ c0.size := by rw [Nat.add_mul] at hmz; omega
          have hcn1 : ∀ v ∈ cn, v.oneCell' = true := by
            intro v hv
            simp only [cn, List.mem_map, List.mem_range] at hv
            obtain ⟨k, hk, rfl⟩ := hv
            have h1 : k / z' < es.length := Nat.lt_of_lt_of_le (Nat.div_lt_of_lt_mul (by rw [Nat.mul_comm]; exact hk)) hm1
            have hget : es[k / z']? = some es[k / z'] := List.getElem?_eq_getElem h1
            have := (hg2 (k / z') _ (k % z') _ hget (List.getElem?_eq_getElem (by rw [hes _ _ hget]; exact Nat.mod_lt _ hn))).1
            rwa [Nat.div_add_mod'] at this
          have hst := run_storeCells_at (P := P) b' (o + off * z') t0 cn 0 c0 E.w hb0 (by omega) hcn1
          rw [Nat.add_zero] at hst
          let c' := (c0.toList.take (o + off * z') ++ cn ++ c0.toList.drop (o + off * z' + cn.length)).toArray
          have hst2 : (storeCells (⟨b', o + off * z', none⟩ : Addr) ((List.range (m * z')).map f2).toArray.toList).run P E.w = .ok () (E.w.setRow b' c') := hst
          have hrun := run_copy (u := u) (w := E.w) (cap := cap0) ty hu hz (hlen _) (by rw [hm]; exact hf2 m hm1 E.w rfl) hst2
          rw [hm] at hrun
          have hcs : c'.size = c0.size := by simp [c']; omega
          obtain ⟨hle1, hF1, hat, hmem⟩ := set_block hF hM hg rfl hl hb0 hbase hnok hcs
          refine ⟨_, E.set b' c', hrun, hle1, fun id' => ⟨.inl, fun h => h.elim (fun h => h) (fun h => by simp only at h; omega)⟩, by simp, hF1, hmem _ ?_, .pure (.sc _)⟩
          simp only [ArrRel]
          rw [show (E.set b' c').loc id = some (b', o, z') from hl]
          have hxl : (xs.take off ++ es.take m ++ xs.drop (off + m)).length = xs.length := by simp; omega
          refine ⟨c', t0, hat, hbase, hnok, by rw [hxl, hcs]; exact hsz, rfl, ?_⟩
          have hcm : Cells (E.set b' c').w (E.set b' c').ok c0 o z' xs := hc1.mono hle1.ok hle1.blk
          have hcell : ∀ q, c'[q]? = if q < o + off * z' then c0[q]? else if q < o + off * z' + cn.length then cn[q - (o + off * z')]? else c0[q]? := by
            intro q
            have := splice_get (l := c0.toList) (v := cn) (p := o + off * z') (q := q) (by simpa using hroom2)
            simpa [c'] using this
          intro k row hk
          rw [List.append_assoc, List.getElem?_append, List.length_take, Nat.min_eq_left (by omega)] at hk
          split at hk
          · rename_i hlt
            rw [List.getElem?_take, if_pos hlt] at hk
            obtain ⟨q1, q2⟩ := hcm k row hk
            refine ⟨q1, fun j a hj => ?_⟩
            have hjn : j < z' := by rw [← q1]; exact (List.getElem?_eq_some_iff.1 hj).1
            have := idx_lt hlt hjn
            obtain ⟨y', e1, e2⟩ := q2 j a hj
            exact ⟨y', by rw [hcell, if_pos (by omega)]; exact e1, e2⟩
          · rename_i hge
            rw [List.getElem?_append, List.length_take, Nat.min_eq_left hm1] at hk
            split at hk
            · rename_i hlt
              rw [List.getElem?_take, if_pos hlt] at hk
              refine ⟨hes _ row hk, fun j a hj => ?_⟩
              have hjn : j < z' := by rw [← hes _ row hk]; exact (List.getElem?_eq_some_iff.1 hj).1
              have h1 := idx_lt hlt hjn
              have hkk : k * z' = off * z' + (k - off) * z' := by rw [← Nat.add_mul]; congr 1; omega
              obtain ⟨q2, q3⟩ := hg2 _ row j a hk hj
              refine ⟨_, ?_, q2, q3.mono hle1.ok hle1.blk⟩
              rw [hcell, if_neg (by omega), if_pos (by omega), show o + k * z' + j - (o + off * z') = (k - off) * z' + j by omega]
              simp [cn, h1]
            · rename_i hge2
              rw [List.getElem?_drop, show off + m + (k - off - m) = k by omega] at hk
              obtain ⟨q1, q2⟩ := hcm k row hk
              refine ⟨q1, fun j a hj => ?_⟩
              obtain ⟨y', e1, e2⟩ := q2 j a hj
              have : (off + m) * z' ≤ k * z' := Nat.mul_le_mul_right z' (by omega)
              rw [Nat.add_mul] at this
              exact ⟨y', by rw [hcell, if_neg (by omega), if_neg (by omega)]; exact e1, e2⟩
      · exact absurd h (by simp)
    · exact absurd h (by simp)
  · exact absurd h (by simp)

/-- What the machine does at an operation that is no call of a function. -/
def OpRun (P : Program) (o : Oper) (a : Act) (w : World) (x : Value) (w' : World) : Prop :=
  (execOp a.eval o).run P w = .ok (.value x) w' ∨ ((execOp a.eval o).run P w = .ok .skip w' ∧ x = undef)

theorem builtin_sound {E : Env} {P : Program} {w0 : World} {okb : Nat → Prop} {s : AS} {b : Builtin} {ts : List TypeId} {vs : List AV} {l : List Value} {r : Res} (hF : Frm E w0 okb) (hM : MemRel E w0.heap.size s.mem)
    (hl : Reps E vs l) (h : builtinE P s b ts vs = some r) (hid : ∀ id, s.nx ≤ id → id < r.nx → ¬ E.al id) (ty : TypeId) (cs : Array Bool) :
    ∃ y E', (builtin b ts.toArray ty cs l.toArray).run P E.w = .ok (.value y) E'.w ∧ Stepped E w0 okb s.mem s.nx r y E' := by
  unfold builtinE at h
  split at h
  · obtain ⟨x, rfl⟩ : ∃ x, l = [x] := List.length_eq_one_iff.1 hl.1
    obtain ⟨y, hy, hS⟩ := len_sound hF hM (hl.2 0 _ x rfl rfl) h ty
    exact ⟨y, E, by simp [builtin, hy], hS⟩
  · obtain ⟨x, y, rfl⟩ : ∃ x y, l = [x, y] := by
      have := hl.1
      match l, this with
      | [x, y], _ => exact ⟨x, y, rfl⟩
    obtain ⟨z, E', hz, hS⟩ := append_sound hF hM (hl.2 0 _ x rfl rfl) (hl.2 1 _ y rfl rfl) h hid ty
    exact ⟨z, E', by simp [builtin, hz], hS⟩
  · obtain ⟨x, y, rfl⟩ : ∃ x y, l = [x, y] := by
      have := hl.1
      match l, this with
      | [x, y], _ => exact ⟨x, y, rfl⟩
    rename_i t0 u0 _ _
    obtain ⟨z, E', hz, hS⟩ := copy_sound (u := u0) hF hM (hl.2 0 _ x rfl rfl) (hl.2 1 _ y rfl rfl) h ty
    exact ⟨z, E', by simp [builtin, hz], hS⟩
  · rename_i k a rest
    cases hm : minmax true a rest with
    | none => simp [hm] at h
    | some m =>
      simp only [hm, Option.map_some, Option.some.injEq] at h
      subst h
      cases l with
      | nil => have := hl.1; simp at this
      | cons x l =>
        obtain rfl := (hl.2 0 _ x rfl rfl).sc_inv
        have hr : Reps E rest l := drop_reps hl 1
        have := minmax_sound (P := P) true k hm hr E.w
        simp only [if_true] at this
        exact ⟨_, E, by simp [builtin, Builtin.max_, this], .same hF hM (.pure (.sc _))⟩
  · rename_i k a rest
    cases hm : minmax false a rest with
    | none => simp [hm] at h
    | some m =>
      simp only [hm, Option.map_some, Option.some.injEq] at h
      subst h
      cases l with
      | nil => have := hl.1; simp at this
      | cons x l =>
        obtain rfl := (hl.2 0 _ x rfl rfl).sc_inv
        have hr : Reps E rest l := drop_reps hl 1
        have := minmax_sound (P := P) false k hm hr E.w
        simp only [Bool.false_eq_true, if_false] at this
        exact ⟨_, E, by simp [builtin, Builtin.min_, this], .same hF hM (.pure (.sc _))⟩
  · exact absurd h (by simp)

theorem ev_sound {E : Env} {P : Program} {w0 : World} {okb : Nat → Prop} {s : AS} {o : Oper} {a : Act} {r : Res} (hF : Frm E w0 okb) (hM : MemRel E w0.heap.size s.mem) (hT : TmOk E s a)
    (h : ev P o s = some r) (hid : ∀ id, s.nx ≤ id → id < r.nx → ¬ E.al id) : ∃ x E', OpRun P o a E.w x E'.w ∧ Stepped E w0 okb s.mem s.nx r x E' := by
  obtain ⟨dst, op, type, pos, after, guard⟩ := o
  unfold ev at h
  simp only at h
  split at h
  · rename_i x
    split at h
    · rename_i v hv
      obtain rfl := Option.some.inj h
      exact ⟨_, E, .inl rfl, .same hF hM (opr_sound hT hv)⟩
    · exact absurd h (by simp)
  · rename_i x
    split at h
    · rename_i v hv
      obtain rfl := Option.some.inj h
      exact ⟨_, E, .inl rfl, .same hF hM (opr_sound hT hv)⟩
    · exact absurd h (by simp)
  · rename_i c x y
    split at h
    · rename_i t hc
      have hcv := (opr_sound hT hc).sc_inv
      split at h
      · rename_i v hv
        obtain rfl := Option.some.inj h
        cases t with
        | true => simp only [if_true] at hv; exact ⟨a.eval x, E, .inl (by simp [execOp, hcv, asBool]), .same hF hM (opr_sound hT hv)⟩
        | false => simp only [Bool.false_eq_true, if_false] at hv; exact ⟨a.eval y, E, .inl (by simp [execOp, hcv, asBool]), .same hF hM (opr_sound hT hv)⟩
      · exact absurd h (by simp)
    · exact absurd h (by simp)
  · rename_i t
    obtain ⟨y, E', hy, hS⟩ := alloc_sound hF hM h hid
    exact ⟨y, E', .inl (by simp [execOp, hy]), hS⟩
  · rename_i t x
    split at h
    · rename_i v hv
      obtain ⟨y, E', hy, hS⟩ := boxE_sound (t := t) (P := P) hF hM (opr_sound hT hv) h hid
      exact ⟨y, E', .inl (by simp [execOp, hy]), hS⟩
    · exact absurd h (by simp)
  · rename_i t ps
    split at h
    · rename_i vs hvs
      obtain ⟨h1, h2⟩ := oprs2_sound hT hvs
      obtain ⟨y, hy, hS⟩ := build_sound (pv := ps.map fun p => (p.1, a.eval p.2)) hF hM (by simpa using h1) (by simpa using h2) h
      exact ⟨y, E, .inl (by simp [execOp, hy]), hS⟩
    · exact absurd h (by simp)
  · rename_i t n ps
    split at h
    · rename_i vs hvs
      obtain ⟨h1, h2⟩ := oprs2_sound hT hvs
      obtain ⟨y, E', hy, hS⟩ := buildSlice_sound (pv := ps.map fun p => (p.1, a.eval p.2)) hF hM (by simpa using h1) (by simpa using h2) h hid
      exact ⟨y, E', .inl (by simp [execOp, hy]), hS⟩
    · exact absurd h (by simp)
  · rename_i t p
    split at h
    · rename_i v hv
      obtain ⟨y, hy, hS⟩ := load_sound hF hM (opr_sound hT hv) h
      exact ⟨y, E, .inl (by simp [execOp, hy]), hS⟩
    · exact absurd h (by simp)
  · rename_i t p x
    split at h
    · rename_i p' v hp hv
      obtain ⟨E', hy, hS⟩ := store_sound hF hM (opr_sound hT hp) (opr_sound hT hv) h
      exact ⟨undef, E', .inr ⟨by simp [execOp, hy], rfl⟩, hS⟩
    · exact absurd h (by simp)
  · rename_i x
    split at h
    · rename_i id i j hv
      obtain rfl := Option.some.inj h
      have hr := opr_sound hT hv
      obtain ⟨ha, b, o, z, hl, he⟩ := hr.ptr_inv
      exact ⟨a.eval x, E, .inl (by simp [execOp, he]), .same hF hM hr⟩
    · rename_i cs hv
      obtain rfl := Option.some.inj h
      have hr := opr_sound hT hv
      obtain ⟨b, o, he, _⟩ := hr.ref_inv
      exact ⟨a.eval x, E, .inl (by simp [execOp, he]), .same hF hM hr⟩
    · rename_i f p q hv
      obtain rfl := Option.some.inj h
      have hr := opr_sound hT hv
      obtain ⟨fv, cv, he, _⟩ := hr.fn_inv
      exact ⟨a.eval x, E, .inl (by simp [execOp, he]), .same hF hM hr⟩
    · exact absurd h (by simp)
  · rename_i op t x y u
    split at h
    · rename_i p q hp hq
      split at h
      · rename_i v hv
        obtain rfl := Option.some.inj h
        obtain ⟨z, hz, hR⟩ := bin_sound (P := P) hv (opr_sound hT hp) (opr_sound hT hq) x y E.w
        exact ⟨z, E, .inl (by simp only [execOp]; rw [Sem.run_bind, hz]; rfl), .same hF hM hR⟩
      · exact absurd h (by simp)
    · exact absurd h (by simp)
  · rename_i op t x
    split at h
    · rename_i p hp
      split at h
      · rename_i v hv
        obtain rfl := Option.some.inj h
        obtain ⟨z, hz, hR⟩ := un_sound (P := P) hv (opr_sound hT hp) E.w
        exact ⟨z, E, .inl (by simp [execOp, hz]), .same hF hM hR⟩
      · exact absurd h (by simp)
    · exact absurd h (by simp)
  · rename_i t u x
    split at h
    · rename_i v hv
      obtain ⟨y, hy, hS⟩ := conv_sound hF hM (opr_sound hT hv) h
      exact ⟨y, E, .inl (by simp [execOp, hy]), hS⟩
    · exact absurd h (by simp)
  · rename_i f x y
    split at h
    · rename_i p q hp hq
      obtain rfl := Option.some.inj h
      have h1 := oprs_sound hT hp
      have h2 := oprs_sound hT hq
      refine ⟨.func (.func f) (x.map a.eval) (y.map a.eval), E, .inl (by simp [execOp, Instr.makeFunc]), .same hF hM ?_⟩
      have := Rep.fn (E := E) f p q _ _ h1.1 h2.1 h1.2 h2.2
      rwa [show (x.toList.map a.eval).toArray = x.map a.eval from Array.ext' (by simp), show (y.toList.map a.eval).toArray = y.map a.eval from Array.ext' (by simp)] at this
    · exact absurd h (by simp)
  · rename_i t l c
    split at h
    · rename_i p q hp hq
      obtain ⟨y, E', hy, hS⟩ := makeSlice_sound hF hM (opr_sound hT hp) (opr_sound hT hq) h hid
      exact ⟨y, E', .inl (by simp [execOp, hy]), hS⟩
    · exact absurd h (by simp)
  · rename_i t x
    split at h
    · rename_i v hv
      obtain ⟨y, hy, hS⟩ := slice_sound (lo := none) (hi := none) (vlo := none) (vhi := none) hF hM (opr_sound hT hv) trivial trivial h
      exact ⟨y, E, .inl (by simp [execOp, hy]), hS⟩
    · exact absurd h (by simp)
  · rename_i t x l
    split at h
    · rename_i v p hv hp
      obtain ⟨y, hy, hS⟩ := slice_sound (lo := some p) (hi := none) (vlo := some (a.eval l)) (vhi := none) hF hM (opr_sound hT hv) (opr_sound hT hp) trivial h
      exact ⟨y, E, .inl (by simp [execOp, hy]), hS⟩
    · exact absurd h (by simp)
  · rename_i t x q
    split at h
    · rename_i v p hv hp
      obtain ⟨y, hy, hS⟩ := slice_sound (lo := none) (hi := some p) (vlo := none) (vhi := some (a.eval q)) hF hM (opr_sound hT hv) trivial (opr_sound hT hp) h
      exact ⟨y, E, .inl (by simp [execOp, hy]), hS⟩
    · exact absurd h (by simp)
  · rename_i t x l q
    split at h
    · rename_i v p p' hv hp hp'
      obtain ⟨y, hy, hS⟩ := slice_sound (lo := some p) (hi := some p') (vlo := some (a.eval l)) (vhi := some (a.eval q)) hF hM (opr_sound hT hv) (opr_sound hT hp) (opr_sound hT hp') h
      exact ⟨y, E, .inl (by simp [execOp, hy]), hS⟩
    · exact absurd h (by simp)
  · rename_i t x f
    split at h
    · rename_i v hv
      obtain ⟨y, hy, hS⟩ := fieldAddr_sound hF hM (opr_sound hT hv) h
      exact ⟨y, E, .inl (by simp [execOp, hy]), hS⟩
    · exact absurd h (by simp)
  · rename_i t x f
    split at h
    · rename_i v hv
      obtain ⟨y, hy, hS⟩ := field_sound hF hM (opr_sound hT hv) h
      exact ⟨y, E, .inl (by simp [execOp, hy]), hS⟩
    · exact absurd h (by simp)
  · rename_i t x i
    split at h
    · rename_i v p hv hp
      obtain ⟨y, hy, hS⟩ := indexAddr_sound hF hM (opr_sound hT hv) (opr_sound hT hp) h
      exact ⟨y, E, .inl (by simp [execOp, hy]), hS⟩
    · exact absurd h (by simp)
  · rename_i t x i
    split at h
    · rename_i v p hv hp
      obtain ⟨y, hy, hS⟩ := index_sound hF hM (opr_sound hT hv) (opr_sound hT hp) h
      exact ⟨y, E, .inl (by simp [execOp, hy]), hS⟩
    · exact absurd h (by simp)
  · rename_i x i
    split at h
    · rename_i vs hv
      split at h
      · rename_i v hvi
        obtain rfl := Option.some.inj h
        obtain ⟨cv, he, hr⟩ := (opr_sound hT hv).tup_inv
        obtain ⟨y, hy⟩ : ∃ y, cv[i]? = some y := ⟨_, List.getElem?_eq_getElem (by have := (List.getElem?_eq_some_iff.1 hvi).1; rw [hr.1]; exact this)⟩
        exact ⟨y, E, .inl (by simp [execOp, he, Instr.extract, hy]), .same hF hM (hr.2 i v y hvi hy)⟩
      · exact absurd h (by simp)
    · exact absurd h (by simp)
  · rename_i c
    split at h
    · rename_i b hb
      split at h
      · rename_i vs hvs
        have hr := oprs_sound hT hvs
        obtain ⟨y, E', hy, hS⟩ := builtin_sound hF hM hr h hid type (c.args.map fun | .const _ => true | _ => false)
        refine ⟨y, E', .inl ?_, hS⟩
        simp only [execOp, resolve, hb, Sem.run_bind, Sem.run_pure, Result.andThen_ok, invoke]
        have e : (c.args.map a.eval) = (c.args.toList.map a.eval).toArray := Array.ext' (by simp)
        rw [e]
        exact hy
      · exact absurd h (by simp)
    · exact absurd h (by simp)
  · exact absurd h (by simp)
end Go.Ab
end
