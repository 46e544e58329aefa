/- The abstract interpreter: results; bodies, sound. -/
import Derived.Test.YtmdeiagmlabfmaaDoorAb29
set_option linter.unusedVariables false
set_option linter.unusedSimpArgs false
set_option linter.unusedSectionVars false

namespace Go.Ab
open Go.RowKit (Below)

theorem RR.okMono {w : World} {ok ok' : Nat → Prop} {h : Nat} {a : AV} {v : Value} {bs : List Nat} (hok : ∀ b, ok b → ok' b) (hr : RR w ok h a v bs) : RR w ok' h a v bs := by
  cases hr with
  | pure hp => exact .pure (hp.mono hok (fun _ _ => rfl))
  | frNil sz => exact .frNil sz
  | fr sz xs b o cap c t hb hh hl hs hc => exact .fr sz xs b o cap c t hb hh hl hs (hc.mono hok (fun _ _ => rfl))
theorem RRs.okMono {w : World} {ok ok' : Nat → Prop} {h : Nat} {as : List AV} {vs : List Value} {bs : List Nat} (hok : ∀ b, ok b → ok' b) (hr : RRs w ok h as vs bs) : RRs w ok' h as vs bs := by
  induction hr with
  | nil => exact .nil
  | cons ha _ ih => exact .cons (ha.okMono hok) ih
  | agg h1 _ _ ih1 ih2 => exact .agg h1 ih1 ih2

theorem row_part {E : Env} {base : Nat} {mem : List (Nat × Arr)} (hM : MemRel E base mem) {id off len sz : Nat} {xs : List (List AV)} (hg : get mem id = some (.row sz xs)) {b o z : Nat} (hl : E.loc id = some (b, o, z))
    {c : Array Value} {t : TypeId} {f : Nat × Nat} (hb : E.w.heap[b]? = some (.cells c t f)) : Cells E.w E.ok c (o + off * sz) sz ((xs.drop off).take len) := by
  obtain ⟨h1, h2⟩ := row_cells (off := off) (len := len) hM (.inl hg) hl
  refine fun i cs hi => ⟨h1 i cs hi, fun j a hj => ?_⟩
  obtain ⟨y, q1, q2, q3⟩ := h2 i cs j a hi hj
  rw [cell_at hb] at q1
  exact ⟨y, q1, q2, q3⟩

structure OutOk (E : Env) (base : Nat) (mem : List (Nat × Arr)) (x y : List Nat) (ok' : Nat → Prop) : Prop where
  ok : ∀ b, E.ok b → ok' b
  y : ∀ id, id ∈ y → ∀ b o z, E.loc id = some (b, o, z) → ok' b

theorem ret_one {E : Env} {base : Nat} {mem : List (Nat × Arr)} (hM : MemRel E base mem) {a a' : AV} {x y : List Nat} {v : Value} {ok' : Nat → Prop} (h : RetTo mem a a' x y) (hv : Rep E a v) (ho : ∀ b, E.ok b → ok' b)
    (hy : ∀ id, id ∈ y → ∀ b o z, E.loc id = some (b, o, z) → ok' b) : ∃ bs, RR E.w ok' base a' v bs ∧ bs.Nodup ∧ (∀ b, b ∈ bs → ∃ id o z, id ∈ x ∧ E.loc id = some (b, o, z)) ∧ ∀ id, id ∈ x ++ y → ∃ sz xs, get mem id = some (.row sz xs) := by
  cases h with
  | same h => exact ⟨[], .pure ((rep_pure h hv).mono ho (fun _ _ => rfl)), by simp, by simp, by simp⟩
  | nil sz => obtain rfl := hv.nil_inv; exact ⟨[], .pure (.slNil sz), by simp, by simp, by simp⟩
  | nilF sz => obtain rfl := hv.nil_inv; exact ⟨[], .frNil sz, by simp, by simp, by simp⟩
  | @fr id off len sz xs hg hl =>
    have hll : ((xs.drop off).take len).length = len := by simp; omega
    rcases hv.own_inv.2 with ⟨hloc, rfl, rfl, rfl⟩ | ⟨b, o, z, cap, hloc, rfl, hc, c, t, f, hb, hs⟩
    · refine ⟨[], ?_, by simp, by simp, fun i hi => ⟨sz, xs, ?_⟩⟩
      · simpa using RR.frNil (w := E.w) (ok := ok') (h := base) sz
      · obtain rfl : i = id := by simpa using hi
        exact hg
    · have hzz := row_loc hM (.inl hg) hloc
      subst hzz
      have hr := (hM.arr id _ hg).2
      simp only [ArrRel, hloc] at hr
      obtain ⟨c', t', hb', hbase, _, _⟩ := hr
      have e := hb.symm.trans hb'
      simp only [Option.some.injEq, Obj.cells.injEq] at e
      obtain ⟨rfl, rfl, rfl⟩ := e
      have := RR.fr (w := E.w) (ok := ok') (h := base) z ((xs.drop off).take len) b (o + off * z) cap c t hb hbase (by omega) (by rw [Nat.add_assoc, ← Nat.add_mul]; exact hs) ((row_part hM hg hloc hb).mono ho (fun _ _ => rfl))
      rw [hll] at this
      refine ⟨[b], this, by simp, fun b' hb' => ⟨id, o, z, by simp, ?_⟩, fun i hi => ⟨z, xs, ?_⟩⟩
      · obtain rfl : b' = b := by simpa using hb'
        exact hloc
      · obtain rfl : i = id := by simpa using hi
        exact hg
  | @sl id off len sz xs hg hl =>
    have hll : ((xs.drop off).take len).length = len := by simp; omega
    refine ⟨[], .pure ?_, by simp, by simp, fun i hi => ⟨sz, xs, ?_⟩⟩
    · rcases hv.own_inv.2 with ⟨hloc, rfl, rfl, rfl⟩ | ⟨b, o, z, cap, hloc, rfl, hc, c, t, f, hb, hs⟩
      · simpa using RepP.slNil (w := E.w) (ok := ok') sz
      · have hzz := row_loc hM (.inl hg) hloc
        subst hzz
        obtain ⟨hz, hcell⟩ := row_cells (off := off) (len := len) hM (.inl hg) hloc
        have := RepP.sl (w := E.w) (ok := ok') z ((xs.drop off).take len) b (o + off * z) cap (fun i j => (E.w.cell? ⟨b, o + off * z + i * z + j, none⟩).getD undef) (hy id (by simp) b o z hloc) (by omega) hz
          (fun i cs j a hi hj => by obtain ⟨y, h1, h2, h3⟩ := hcell i cs j a hi hj; simp [h1])
          (fun i cs j a hi hj => by obtain ⟨y, h1, h2, h3⟩ := hcell i cs j a hi hj; simpa [h1] using h2)
          (fun i cs j a hi hj => by obtain ⟨y, h1, h2, h3⟩ := hcell i cs j a hi hj; simpa [h1] using h3.mono ho (fun _ _ => rfl))
        rwa [hll] at this
    · obtain rfl : i = id := by simpa using hi
      exact hg
  | @frz id off len sz xs hg hl => exact ⟨[], .pure ((frz_rep hM hg hv hl).mono ho (fun _ _ => rfl)), by simp, by simp, by simp⟩

theorem rets_sound {E : Env} {base : Nat} {mem : List (Nat × Arr)} (hM : MemRel E base mem) {as as' : List AV} {x y : List Nat} {ok' : Nat → Prop} (h : RetsTo mem as as' x y) : ∀ {vs : List Value}, Reps E as vs → (∀ b, E.ok b → ok' b) →
    (∀ id, id ∈ y → ∀ b o z, E.loc id = some (b, o, z) → ok' b) → x.Nodup → ∃ bs, RRs E.w ok' base as' vs bs ∧ bs.Nodup ∧ (∀ b, b ∈ bs → ∃ id o z, id ∈ x ∧ E.loc id = some (b, o, z)) ∧ ∀ id, id ∈ x ++ y → ∃ sz xs, get mem id = some (.row sz xs) := by
  have nd : ∀ (x x' y y' bs bs' : List Nat), (x ++ x').Nodup → bs.Nodup → bs'.Nodup → (∀ b, b ∈ bs → ∃ id o z, id ∈ x ∧ E.loc id = some (b, o, z)) → (∀ b, b ∈ bs' → ∃ id o z, id ∈ x' ∧ E.loc id = some (b, o, z)) →
      (∀ id, id ∈ x ++ y → ∃ sz xs, get mem id = some (.row sz xs)) → (∀ id, id ∈ x' ++ y' → ∃ sz xs, get mem id = some (.row sz xs)) → (bs ++ bs').Nodup ∧ (∀ b, b ∈ bs ++ bs' → ∃ id o z, id ∈ x ++ x' ∧ E.loc id = some (b, o, z)) ∧
      ∀ id, id ∈ (x ++ x') ++ (y ++ y') → ∃ sz xs, get mem id = some (.row sz xs) := by
    intro x x' y y' bs bs' h0 h1 h2 h3 h4 h5 h6
    rw [List.nodup_append] at h0
    refine ⟨List.nodup_append.2 ⟨h1, h2, fun b hb b' hb' e => ?_⟩, fun b hb => ?_, fun id hi => ?_⟩
    · subst e
      obtain ⟨id, o, z, q1, q2⟩ := h3 b hb
      obtain ⟨id', o', z', q3, q4⟩ := h4 b hb'
      obtain ⟨_, _, g1⟩ := h5 id (by simp [q1])
      obtain ⟨_, _, g2⟩ := h6 id' (by simp [q3])
      have := hM.far id id' _ _ b o z o' z' g1 g2 rfl rfl q2 q4
      subst this
      exact h0.2.2 id q1 id q3 rfl
    · rcases List.mem_append.1 hb with hb | hb
      · obtain ⟨id, o, z, q1, q2⟩ := h3 b hb; exact ⟨id, o, z, by simp [q1], q2⟩
      · obtain ⟨id, o, z, q1, q2⟩ := h4 b hb; exact ⟨id, o, z, by simp [q1], q2⟩
    · simp only [List.mem_append] at hi h5 h6
      rcases hi with (hi | hi) | (hi | hi)
      · exact h5 id (.inl hi)
      · exact h6 id (.inl hi)
      · exact h5 id (.inr hi)
      · exact h6 id (.inr hi)
  have tail : ∀ {a : AV} {r : List AV} {vs : List Value}, Reps E (a :: r) vs → ∃ v vs', vs = v :: vs' ∧ Rep E a v ∧ Reps E r vs' := by
    intro a r vs hR
    match vs, hR with
    | [], hR => have := hR.1; simp at this
    | v :: vs', hR => exact ⟨v, vs', rfl, hR.2 0 a v rfl rfl, by simpa using hR.1, fun j c u hj hu => hR.2 (j + 1) c u (by simpa using hj) (by simpa using hu)⟩
  induction h with
  | nil =>
    intro vs hR _ _ _
    obtain rfl : vs = [] := by simpa using hR.1
    exact ⟨[], .nil, by simp, by simp, by simp⟩
  | cons h hr ih =>
    intro vs hR ho hy hx
    obtain ⟨v, vs', rfl, h1, h2⟩ := tail hR
    obtain ⟨bs, q1, q2, q3, q4⟩ := ret_one hM h h1 ho (fun id hi => hy id (by simp [hi]))
    obtain ⟨bs', q5, q6, q7, q8⟩ := ih h2 ho (fun id hi => hy id (by simp [hi])) (List.nodup_append.1 hx).2.1
    obtain ⟨n1, n2, n3⟩ := nd _ _ _ _ bs bs' hx q2 q6 q3 q7 q4 q8
    exact ⟨bs ++ bs', .cons q1 q5, n1, n2, n3⟩
  | aggs h hr ih1 ih2 =>
    intro vs hR ho hy hx
    obtain ⟨v, vs', rfl, h1, h2⟩ := tail hR
    obtain ⟨cv, rfl, g1, g2⟩ := h1.agg_inv
    obtain ⟨bs, q1, q2, q3, q4⟩ := ih1 g2 ho (fun id hi => hy id (by simp [hi])) (List.nodup_append.1 hx).1
    obtain ⟨bs', q5, q6, q7, q8⟩ := ih2 h2 ho (fun id hi => hy id (by simp [hi])) (List.nodup_append.1 hx).2.1
    obtain ⟨n1, n2, n3⟩ := nd _ _ _ _ bs bs' hx q2 q6 q3 q7 q4 q8
    exact ⟨bs ++ bs', .agg g1 q1 q5, n1, n2, n3⟩

def readRes (tmps : Array Value) : ResultVar → Sem Value
  | .tmp t => pure (tmps.getD t undef)
  | .cell p t => do loadVar t (← asAddr (tmps.getD p undef))
theorem results_eq (fn : Func) (tmps : Array Value) : results fn tmps = (do
    let vs ← fn.results.mapM (readRes tmps)
    pure (if h : vs.size = 1 then vs[0] else .tuple vs)) := by
  unfold results
  congr 1

theorem resVars_sound {E : Env} {base : Nat} {s : AS} {a : Act} (hM : MemRel E base s.mem) (hT : TmRel E s.tm a) (P : Program) : ∀ {l : List ResultVar} {vs : List AV}, resVars P s l = some vs →
    ∃ xs : List Value, (l.mapM (readRes a.tmps)).run P E.w = .ok xs E.w ∧ Reps E vs xs
  | [], vs, h => by
    obtain rfl := Option.some.inj h
    exact ⟨[], by simp [Sem.run_pure], rfl, by simp⟩
  | x :: r, vs, h => by
    unfold resVars at h
    split at h
    · rename_i v vs' h1 h2
      obtain rfl := Option.some.inj h
      obtain ⟨xs, q1, q2⟩ := resVars_sound hM hT P h2
      have key : ∃ y, (readRes a.tmps x).run P E.w = .ok y E.w ∧ Rep E v y := by
        cases x with
        | tmp t =>
          obtain ⟨y, g1, g2⟩ := hT t v h1
          exact ⟨y, by simp [readRes, Sem.run_pure, Array.getD_eq_getD_getElem?, g1], g2⟩
        | cell p t =>
          simp only [resVar] at h1
          split at h1
          · rename_i pv hp
            obtain ⟨px, g1, g2⟩ := hT p pv hp
            split at h1
            · rename_i z cs rd hz hb
              obtain ⟨b, o, rfl, hc⟩ := behind_sound hM hb g2
              obtain ⟨y, hy, hr⟩ := loadVar_sound hz h1 hc
              exact ⟨y, by simp [readRes, Array.getD_eq_getD_getElem?, g1, asAddr, hy], hr⟩
            · exact absurd h1 (by simp)
          · exact absurd h1 (by simp)
      obtain ⟨y, k1, k2⟩ := key
      refine ⟨y :: xs, ?_, by simp [q2.1], fun j c u hj hu => ?_⟩
      · simp only [List.mapM_cons, Sem.run_bind, Sem.run_pure, Result.andThen_ok, q1, k1]
      · cases j with
        | zero => simp at hj hu; subst hj hu; exact k2
        | succ j => exact q2.2 j c u (by simpa using hj) (by simpa using hu)
    · exact absurd h (by simp)

theorem get_number : ∀ {as : List AV} {k t : Nat} {v : AV}, get (number k as) t = some v → k ≤ t ∧ as[t - k]? = some v
  | [], _, _, _, h => by cases h
  | a :: r, k, t, v, h => by
    simp only [number, get_cons] at h
    split at h
    · rename_i e
      subst e
      exact ⟨Nat.le_refl _, by simpa using h⟩
    · obtain ⟨h1, h2⟩ := get_number h
      refine ⟨by omega, ?_⟩
      rw [show t - k = (t - (k + 1)) + 1 by omega]
      simpa using h2

def valOut (xs : List Value) : Value := match xs with
  | [v] => v
  | _ => .tuple xs.toArray

theorem retC_to {mem : List (Nat × Arr)} {a a' : AV} {used : List Nat} {K : List Nat → Prop} (h : retC mem a a' used K) : ∃ x y, RetTo mem a a' x y ∧ (x ++ y).Nodup ∧ (∀ i, i ∈ x ++ y → i ∉ used) ∧ K (x ++ y ++ used) := by
  unfold retC at h
  split at h
  · split at h
    · obtain ⟨rfl, h1, rfl, h2, h3⟩ := h
      rename_i hg
      exact ⟨_, _, .fr hg h1, by simp, by simpa using h2, h3⟩
    · exact h.elim
  · split at h
    · obtain ⟨rfl, h1, rfl, h2, h3⟩ := h
      rename_i hg
      exact ⟨_, _, .sl hg h1, by simp, by simpa using h2, h3⟩
    · obtain ⟨rfl, h1, rfl, h3⟩ := h
      rename_i hg
      exact ⟨_, _, .frz hg h1, by simp, by simp, h3⟩
    · exact h.elim
  · obtain ⟨rfl, h3⟩ := h; exact ⟨_, _, .nil _, by simp, by simp, h3⟩
  · obtain ⟨rfl, h3⟩ := h; exact ⟨_, _, .nilF _, by simp, by simp, h3⟩
  · obtain ⟨rfl, h1, h3⟩ := h; exact ⟨_, _, .same h1, by simp, by simp, h3⟩

structure Out (mem : List (Nat × Arr)) (as as' : List AV) (used : List Nat) (K : List Nat → Prop) (x y : List Nat) : Prop where
  to : RetsTo mem as as' x y
  nd : (x ++ y).Nodup
  un : ∀ i, i ∈ x ++ y → i ∉ used
  k : ∃ u, (∀ i, i ∈ u ↔ i ∈ x ++ y ++ used) ∧ K u

theorem out_nd {x y x' y' used u : List Nat} (hu : ∀ i, i ∈ u ↔ i ∈ x ++ y ++ used) (n1 : (x ++ y).Nodup) (n2 : (x' ++ y').Nodup) (h1 : ∀ i, i ∈ x ++ y → i ∉ used) (h2 : ∀ i, i ∈ x' ++ y' → i ∉ u) :
    ((x ++ x') ++ (y ++ y')).Nodup ∧ (∀ i, i ∈ (x ++ x') ++ (y ++ y') → i ∉ used) := by
  rw [List.nodup_append] at n1 n2
  have hne : ∀ i, i ∈ x ++ y → ∀ j, j ∈ x' ++ y' → i ≠ j := fun i hi j hj e => h2 j hj ((hu j).2 (by rw [← e]; simp only [List.mem_append] at hi ⊢; exact .inl hi))
  refine ⟨List.nodup_append.2 ⟨List.nodup_append.2 ⟨n1.1, n2.1, fun a ha b hb => hne a (by simp [ha]) b (by simp [hb])⟩, List.nodup_append.2 ⟨n1.2.1, n2.2.1, fun a ha b hb => hne a (by simp [ha]) b (by simp [hb])⟩, fun a ha b hb => ?_⟩, fun i hi hin => ?_⟩
  · rcases List.mem_append.1 ha with ha | ha <;> rcases List.mem_append.1 hb with hb | hb
    · exact n1.2.2 a ha b hb
    · exact hne a (by simp [ha]) b (by simp [hb])
    · exact (hne b (by simp [hb]) a (by simp [ha])).symm
    · exact n2.2.2 a ha b hb
  · have hu' : i ∈ u := (hu i).2 (by simp [hin])
    simp only [List.mem_append] at hi h1 h2
    rcases hi with (hi | hi) | (hi | hi)
    · exact h1 i (.inl hi) hin
    · exact h2 i (.inl hi) hu'
    · exact h1 i (.inr hi) hin
    · exact h2 i (.inr hi) hu'

theorem out_mem {x y x' y' used u u' : List Nat} (hu : ∀ i, i ∈ u ↔ i ∈ x ++ y ++ used) (hu' : ∀ i, i ∈ u' ↔ i ∈ x' ++ y' ++ u) : ∀ i, i ∈ u' ↔ i ∈ (x ++ x') ++ (y ++ y') ++ used := by
  intro i
  rw [hu' i]
  simp only [List.mem_append, hu i]
  constructor
  · rintro ((h | h) | ((h | h) | h)) <;> simp [h]
  · rintro (((h | h) | (h | h)) | h) <;> simp [h]

theorem retCs_to {mem : List (Nat × Arr)} : ∀ {as as' : List AV} {used : List Nat} {K : List Nat → Prop}, retCs mem as as' used K → ∃ x y, Out mem as as' used K x y
  | [], [], used, K, h => ⟨[], [], .nil, by simp, by simp, used, by simp, h⟩
  | a :: r, a' :: r', used, K, h => by
    obtain ⟨x, y, h1, h2, h3, h4⟩ := retC_to (show retC mem a a' used _ from h)
    obtain ⟨x', y', o⟩ := retCs_to h4
    obtain ⟨u, hu, hk⟩ := o.k
    obtain ⟨n1, n2⟩ := out_nd (fun i => Iff.rfl) h2 o.nd h3 o.un
    exact ⟨x ++ x', y ++ y', .cons h1 o.to, n1, n2, u, out_mem (fun i => Iff.rfl) hu, hk⟩
  | [], _ :: _, _, _, h => h.elim
  | _ :: _, [], _, _, h => h.elim

theorem retTs_to {mem : List (Nat × Arr)} : ∀ {as as' : List AV} {used : List Nat} {K : List Nat → Prop}, retTs mem as as' used K → ∃ x y, Out mem as as' used K x y
  | [], [], used, K, h => ⟨[], [], .nil, by simp, by simp, used, by simp [retTs] at h ⊢, by simpa [retTs] using h⟩
  | a :: r, a' :: r', used, K, h => by
    unfold retTs at h
    split at h
    · rename_i e _; cases e
    · rename_i cs r1 cs' r1' u0 K0 e1 e2 
      obtain ⟨rfl, rfl⟩ := List.cons.inj e1
      obtain ⟨rfl, rfl⟩ := List.cons.inj e2
      obtain ⟨x, y, o1⟩ := retCs_to h
      obtain ⟨u1, hu1, hk1⟩ := o1.k
      obtain ⟨x', y', o⟩ := retTs_to hk1
      obtain ⟨u, hu, hk⟩ := o.k
      obtain ⟨n1, n2⟩ := out_nd hu1 o1.nd o.nd o1.un o.un
      exact ⟨x ++ x', y ++ y', .aggs o1.to o.to, n1, n2, u, out_mem hu1 hu, hk⟩
    · rename_i a0 r1 a0' r1' u0 K0 _ e1 e2
      obtain ⟨rfl, rfl⟩ := List.cons.inj e1
      obtain ⟨rfl, rfl⟩ := List.cons.inj e2
      obtain ⟨x, y, h1, h2, h3, h4⟩ := retC_to h
      obtain ⟨x', y', o⟩ := retTs_to h4
      obtain ⟨u, hu, hk⟩ := o.k
      obtain ⟨n1, n2⟩ := out_nd (fun i => Iff.rfl) h2 o.nd h3 o.un
      exact ⟨x ++ x', y ++ y', .cons h1 o.to, n1, n2, u, out_mem (fun i => Iff.rfl) hu, hk⟩
    · exact h.elim
  | [], _ :: _, _, _, h => by simp [retTs] at h
  | _ :: _, [], _, _, h => by simp [retTs] at h

theorem rets_len {mem : List (Nat × Arr)} {as as' : List AV} {x y : List Nat} (h : RetsTo mem as as' x y) : as'.length = as.length := by
  induction h with
  | nil => rfl
  | cons _ _ ih => simp [ih]
  | aggs _ _ _ ih => simp [ih]

theorem retPost_out {P : Program} {rv : Array ResultVar} {r : AV} {e : Ex} {s : AS} (he : ∀ i, e ≠ .exit i) (h : retPost P rv r e s) :
    ∃ vs rs x y, resVars P s rv.toList = some vs ∧ RetsTo s.mem vs rs x y ∧ x.Nodup ∧ (∀ i, i ∈ x → i ∉ y) ∧ r = (match rs with | [v] => v | _ => .tup rs) := by
  have key : (optK (resVars P s rv.toList) fun vs => retTs s.mem vs (unpack vs r) [] fun _ => packs vs r = true) → ∃ vs rs x y, resVars P s rv.toList = some vs ∧ RetsTo s.mem vs rs x y ∧ x.Nodup ∧ (∀ i, i ∈ x → i ∉ y) ∧ r = (match rs with | [v] => v | _ => .tup rs) := by
    intro h
    unfold optK at h
    split at h
    · rename_i vs hv
      obtain ⟨x, y, o⟩ := retTs_to h
      obtain ⟨_, _, hk⟩ := o.k
      have nd := List.nodup_append.1 o.nd
      refine ⟨vs, unpack vs r, x, y, hv, o.to, nd.1, fun i hi hj => nd.2.2 i hi i hj rfl, ?_⟩
      have hl := rets_len o.to
      clear h o nd hv
      match vs, r, hk, hl with
      | [v], r, _, _ => rfl
      | [], r, hk, hl =>
        cases r with
        | tup rs =>
          simp only [unpack] at hl ⊢
          obtain rfl : rs = [] := by simpa using hl
          rfl
        | _ => cases hk
      | v :: w :: l, r, hk, hl =>
        cases r with
        | tup rs =>
          simp only [unpack] at hl ⊢
          match rs, hl with
          | _ :: _ :: _, _ => rfl
        | _ => cases hk
    · exact h.elim
  cases e with
  | exit i => exact absurd rfl (he i)
  | normal => exact key h
  | ret => exact key h

/-- What is known of functions from elsewhere carries over to all that is known. -/
theorem ret_sound {P : Program} {X : CallRel} (hX : RSound P X) (hm : P.follows .mixedOrders = true) : RSound P (Ret P X) := by
  intro f as r h
  refine h (Means P) hX ?_
  rintro f as r ⟨fn, c, hf, hb, hname, hn, hd, hfr, hw⟩
  refine ⟨⟨fn, c, hf, hb, hname⟩, fun w ok vs hok hvs => ?_, fun sz xs e => by subst e; cases hfr⟩
  refine calls_of_wp hf hb ?_
  refine awp_sound (n := fn.ntmps) (w0 := w) (okb := ok) (R := Means P) (fun f as r h => h) hm c (retPost P fn.results r) _ (init as) _ w hd ?_ hw ?_
  · have fin : ∀ s a w', (∃ vs rs x y, resVars P s fn.results.toList = some vs ∧ RetsTo s.mem vs rs x y ∧ x.Nodup ∧ (∀ i, i ∈ x → i ∉ y) ∧ r = (match rs with | [v] => v | _ => .tup rs)) → Good fn.ntmps w ok s a w' →
        a.defers = [] ∧ ∃ v, (results fn a.tmps).run P w' = .ok v w' ∧ ∃ v', Ending.returned v = .returned v' ∧ Below w.heap.size w w' ∧ ResOk w w' ok r v' := by
      rintro s a w' ⟨avs, rs, x, y, h1, h2, h3, h4, h5⟩ ⟨E, rfl, _, hF, hD, hsz, hT, hM⟩
      obtain ⟨xs, q1, q2⟩ := resVars_sound hM hT P h1
      have hrow : ∀ (ok' : Nat → Prop), (∀ b, E.ok b → ok' b) → (∀ id, id ∈ y → ∀ b o z, E.loc id = some (b, o, z) → ok' b) → _ := fun ok' ho hy => rets_sound hM h2 (ok' := ok') q2 ho hy h3
      obtain ⟨_, _, _, _, hrows⟩ := hrow (fun _ => True) (fun _ _ => trivial) (fun _ _ _ _ _ _ => trivial)
      obtain ⟨bs, p1, p2, p3, p4⟩ := hrow (fun b => (ok b ∨ (w.heap.size ≤ b ∧ b < E.w.heap.size)) ∧ ∀ id o z, id ∈ x → E.loc id ≠ some (b, o, z))
        (fun b hb => by
          refine ⟨?_, fun id o z hi hl => ?_⟩
          · by_cases c : b < w.heap.size
            · exact .inl (hF.okb b c hb)
            · exact .inr ⟨by omega, hF.lt b hb⟩
          · obtain ⟨_, _, hg⟩ := hrows id (by simp [hi])
            exact (mut_fact hM hg rfl hl).1 hb)
        (fun id hi b o z hl => by
          obtain ⟨_, _, hg⟩ := hrows id (by simp [hi])
          obtain ⟨_, g2, g3⟩ := mut_fact hM hg rfl hl
          refine ⟨.inr ⟨g3, g2⟩, fun id' o' z' hi' hl' => ?_⟩
          obtain ⟨_, _, hg'⟩ := hrows id' (by simp [hi'])
          have := hM.far id id' _ _ b o z o' z' hg hg' rfl rfl hl hl'
          subst this
          exact h4 id hi' hi)
      refine ⟨hD, valOut xs, ?_, _, rfl, hF.below, bs, rs, xs, p2, p1.okMono fun b hb => ⟨hb.1, fun hbs => ?_⟩, h5, rfl⟩
      · have hrun := q1
        rw [results_eq, Sem.run_bind, Array.mapM_eq_mapM_toList, map_eq_pure_bind, Sem.run_bind, hrun]
        simp only [Result.andThen_ok, Sem.run_pure]
        match xs with
        | [] => rfl
        | [v] => rfl
        | _ :: _ :: _ => rfl
      · obtain ⟨id, o, z, g1, g2⟩ := p3 b hbs
        exact hb.2 id o z g1 g2
    exact ⟨fun s a w' h hg => fin s a w' (retPost_out (by simp) h) hg, fun i s a w' h _ => h.elim, fun s a w' h hg => fin s a w' (retPost_out (by simp) h) hg⟩
  · refine ⟨⟨w, ok, fun _ => none, fun _ => False⟩, rfl, fun id h => h.elim, ⟨.refl _ _, fun b _ h => h, hok⟩, rfl, ?_, fun t v ht => ?_, ⟨fun id arr hg => (by cases hg), fun id id' arr arr' b o z o' z' hg => (by cases hg)⟩⟩
    · have := hvs.1
      simp; omega
    · obtain ⟨_, hj⟩ := get_number ht
      simp only [Nat.sub_zero] at hj
      have hlt : t < vs.length := by have := (List.getElem?_eq_some_iff.1 hj).1; have := hvs.1; omega
      refine ⟨vs[t], ?_, .pure (hvs.2 t v _ hj (List.getElem?_eq_getElem hlt))⟩
      rw [Array.getElem?_append_left (by simpa using hlt)]
      simp [hlt]
end Go.Ab
