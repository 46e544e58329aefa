/- The abstract interpreter: an operation, sound. -/
import Derived.Test.YtmdeiagmlabfmaaDoorAb21
set_option linter.unusedVariables false
set_option linter.unusedSimpArgs false
set_option linter.unusedSectionVars false

namespace Go.Ab
open Go.RowKit (Below)

theorem rrs_pure {w : World} {ok : Nat → Prop} {h : Nat} : ∀ {cs : List AV} {cv : List Value}, cv.length = cs.length → (∀ (j : Nat) (c : AV) (v : Value), cs[j]? = some c → cv[j]? = some v → RepP w ok c v) → RRs w ok h cs cv []
  | [], cv, hl, _ => by
    obtain rfl : cv = [] := by simpa using hl
    exact .nil
  | c :: cs, [], hl, _ => by simp at hl
  | c :: cs, u :: cv, hl, hv => .cons (x := []) (y := []) (.pure (hv 0 c u rfl rfl)) (rrs_pure (by simpa using hl) (fun j c v h1 h2 => hv (j + 1) c v (by simpa using h1) (by simpa using h2)))

theorem rr_ge {w : World} {ok : Nat → Prop} {h : Nat} {a : AV} {v : Value} {bs : List Nat} (hr : RR w ok h a v bs) : ∀ b, b ∈ bs → h ≤ b := by
  cases hr with
  | pure _ => simp
  | frNil _ => simp
  | fr _ _ b _ _ _ _ _ hh => intro b' hb'; simp at hb'; omega
theorem rrs_ge {w : World} {ok : Nat → Prop} {h : Nat} {as : List AV} {vs : List Value} {bs : List Nat} (hr : RRs w ok h as vs bs) : ∀ b, b ∈ bs → h ≤ b := by
  induction hr with
  | nil => simp
  | cons ha _ ih => exact fun b hb => (List.mem_append.1 hb).elim (rr_ge ha b) (ih b)
  | agg _ _ _ ih1 ih2 => exact fun b hb => (List.mem_append.1 hb).elim (ih1 b) (ih2 b)

theorem imp_sound {w0 : World} {okb : Nat → Prop} {h : Nat} (hbase : w0.heap.size ≤ h) {rs : List AV} {vs : List Value} {bs : List Nat} {E : Env} {mem : List (Nat × Arr)} {nx : Nat} {r : AV} {v : Value} (hF : Frm E w0 okb) (hM : MemRel E w0.heap.size mem)
    (hr : r = (match rs with | [a] => a | _ => .tup rs)) (hv : v = (match vs with | [a] => a | _ => .tuple vs.toArray))
    (hid : ∀ id, nx ≤ id → id < (imp nx r).2.2 → ¬ E.al id) (hR : RRs E.w E.ok h rs vs bs) (hnd : bs.Nodup) (hno : ∀ b, b ∈ bs → ¬ E.ok b)
    (hfar : ∀ b, b ∈ bs → ∀ i arr b' o z, get mem i = some arr → arr.isMut = true → E.loc i = some (b', o, z) → b' ≠ b) :
    ∃ E', Imported E w0 okb mem nx (imp nx r).2.1 (imp nx r).2.2 bs E' ∧ Rep E' (imp nx r).1 v := by
  have tuple : r = .tup rs → v = .tuple vs.toArray → ∃ E', Imported E w0 okb mem nx (imp nx r).2.1 (imp nx r).2.2 bs E' ∧ Rep E' (imp nx r).1 v := by
    rintro rfl rfl
    obtain ⟨E1, i1, r1⟩ := imps_sound hbase hF hM hid hR hnd hno hfar
    exact ⟨E1, i1, .tup _ vs r1.1 r1.2⟩
  match rs, vs, hR with
  | [a], [u], hR =>
    simp only at hr hv
    subst hr hv
    by_cases ht : ∃ l, r = .tup l
    · obtain ⟨l, rfl⟩ := ht
      cases hR with
      | cons ha hr =>
        cases hr
        cases ha with
        | pure hp =>
          cases hp with
          | tup _ cv hl hv =>
            obtain ⟨E1, i1, r1⟩ := imps_sound hbase hF hM hid (rrs_pure (h := h) hl hv) hnd hno hfar
            exact ⟨E1, i1, .tup _ cv r1.1 r1.2⟩
    · have e : imp nx r = imp1 nx r := by cases r <;> first | rfl | exact absurd ⟨_, rfl⟩ ht
      rw [e] at hid ⊢
      obtain ⟨E1, i1, r1⟩ := imps_sound hbase hF hM (nx := nx) (by simpa [imps] using hid) hR hnd hno hfar
      simp only [imps, List.nil_append] at i1 r1
      exact ⟨E1, i1, r1.2 0 _ v rfl rfl⟩
  | [], [], hR => exact tuple hr hv
  | a :: b :: l, u :: x :: l', hR => exact tuple hr hv
  | [_], _ :: _ :: _, hR =>
    cases hR with
    | cons _ h => cases h
    | agg _ _ h => cases h
  | _ :: _ :: _, [_], hR =>
    cases hR with
    | cons _ h => cases h
    | agg _ _ h => cases h

theorem call_sound0 {P : Program} {R : CallRel} (hR : RSound P R) {E : Env} {w0 : World} {okb : Nat → Prop} {s : AS} {g : FuncId} {as : List AV} {vs : List Value} {r : Res} (hF : Frm E w0 okb) (hM : MemRel E w0.heap.size s.mem)
    (hy : CallYields0 R s g as r) (hvs : Reps E as vs) (hid : ∀ id, s.nx ≤ id → id < r.nx → ¬ E.al id) :
    Enters P g ∧ Calls P g vs.toArray E.w fun e w' => ∃ v E', e = .returned v ∧ E'.w = w' ∧ Stepped E w0 okb s.mem s.nx r v E' := by
  obtain ⟨as', v, hto, hRv, hmode⟩ := hy
  obtain ⟨hen, hc, _⟩ := hR g as' v hRv
  obtain ⟨hlen, hg⟩ := argsTo_get hto
  have argOf : ∀ (j : Nat) (a' : AV) (u : Value), as'[j]? = some a' → vs[j]? = some u → ∃ a, as[j]? = some a ∧ ArgTo s.mem a a' ∧ Rep E a u := by
    intro j a' u hj hu
    obtain ⟨a, ha⟩ : ∃ a, as[j]? = some a := ⟨_, List.getElem?_eq_getElem (by rw [← hlen]; exact (List.getElem?_eq_some_iff.1 hj).1)⟩
    exact ⟨a, ha, hg j a a' ha hj, hvs.2 j a u ha hu⟩
  refine ⟨hen, ?_⟩
  rcases hmode with ⟨hn, rfl⟩ | ⟨z, hz, hn, rfl⟩
  · refine (hc E.w (fun b => b < E.w.heap.size) vs (fun b h => h) ⟨by rw [hvs.1, hlen], fun j a' u hj hu => ?_⟩).mono ?_
    · obtain ⟨a, _, h2, h3⟩ := argOf j a' u hj hu
      exact args_temp hM hF.lt h2 h3
    · rintro e w' ⟨x, rfl, hB, hres⟩
      have hle := below_le hF.lt hB
      refine ⟨x, { E with w := w' }, rfl, rfl, hle, fun id => ⟨.inl, fun h => h.elim (fun h => h) (fun h => by simp only at h; omega)⟩, Nat.le_refl _, ⟨hF.below.trans (hB.mono hF.below.size), hF.okb, fun b h => Nat.lt_of_lt_of_le (hF.lt b h) hB.size⟩, ?_, noref_res hres hn _⟩
      refine hM.mono hle fun i arr hg hm b o z hl => ?_
      obtain ⟨h1, h2, h3⟩ := mut_fact hM hg hm hl
      exact ⟨hB.block b h2, h1⟩
  · obtain ⟨E1, f1, q1, q2⟩ := frzOf_sound hF hM hz
    have hw := f1.w
    rw [← hw]
    refine (hc E1.w E1.ok vs f1.frm.lt ⟨by rw [hvs.1, hlen], fun j a' u hj hu => ?_⟩).mono ?_
    · obtain ⟨a, h1, h2, h3⟩ := argOf j a' u hj hu
      exact args_perm f1 h2 h3 (q2 a (List.mem_of_getElem? h1))
    · rintro e w' ⟨x, rfl, hB, bs, rs, ws, hnd, hRR, hr1, hv1⟩
      have hge := rrs_ge hRR
      obtain ⟨hle, hF2, hM2⟩ := after_env f1.frm f1.mem hB hge
      obtain ⟨E3, i3, r3⟩ := imp_sound (h := E1.w.heap.size) (E := E1.after w' bs) (nx := s.nx) (okb := okb) f1.frm.below.size hF2 hM2 hr1 hv1 (fun id h1 h2 h3 => hid id h1 h2 (by rw [← f1.al]; exact h3)) hRR hnd (fun b hb h => h.2 hb)
        (fun b hb i arr b' o z' hg hm hl e => by
          have := (mut_fact f1.mem hg hm hl).2.1
          have := hge b hb
          omega)
      refine ⟨x, E3, rfl, i3.w, (f1.le.trans hle).trans i3.le, fun id => ?_, i3.nx, i3.frm, ?_, r3⟩
      · rw [i3.al id]
        show E1.al id ∨ _ ↔ _
        rw [f1.al]
      · simp only [List.append_assoc]; exact i3.mm

def Env.drawN (E : Env) (q : Nat) : Env := { E with w := E.w.drewN q }
theorem drawN_le (E : Env) (q : Nat) : E.Le (E.drawN q) := ⟨fun _ h => h, fun _ _ => rfl, fun _ h => ⟨h, rfl⟩, fun _ c t f h => ⟨c, f, h, rfl⟩⟩
theorem drawN_frm {E : Env} {w0 : World} {okb : Nat → Prop} (hF : Frm E w0 okb) (q : Nat) : Frm (E.drawN q) w0 okb :=
  ⟨hF.below.trans ⟨rfl, rfl, rfl, Nat.le_refl _, fun _ _ => rfl⟩, hF.okb, hF.lt⟩
theorem drawN_mem {E : Env} {base : Nat} {mem : List (Nat × Arr)} (hM : MemRel E base mem) (q : Nat) : MemRel (E.drawN q) base mem :=
  hM.mono (drawN_le E q) fun id arr hg hm b o z hl => ⟨rfl, (mut_fact hM hg hm hl).1⟩

/-- The place that comes to k when a part is turned round. -/
def mir (off len k : Nat) : Nat := if off ≤ k ∧ k < off + len then off + (len - 1 - (k - off)) else k
theorem mir_get {α : Type} {xs : List α} {off len : Nat} (h : off + len ≤ xs.length) (k : Nat) :
    (xs.take off ++ ((xs.drop off).take len).reverse ++ xs.drop (off + len))[k]? = xs[mir off len k]? := by
  have hw : ((xs.drop off).take len).length = len := by simp; omega
  rw [List.append_assoc, List.getElem?_append, List.length_take, Nat.min_eq_left (by omega)]
  split
  · rename_i h1
    rw [List.getElem?_take, if_pos h1, mir, if_neg (by omega)]
  · rename_i h1
    rw [List.getElem?_append, List.length_reverse, hw]
    split
    · rename_i h2
      rw [List.getElem?_reverse (by omega), hw, List.getElem?_take, if_pos (by omega), List.getElem?_drop, mir, if_pos (by omega)]
    · rename_i h2
      rw [List.getElem?_drop, mir, if_neg (by omega)]
      congr 1
      omega
theorem mir_len {α : Type} {xs : List α} {off len : Nat} (h : off + len ≤ xs.length) : (xs.take off ++ ((xs.drop off).take len).reverse ++ xs.drop (off + len)).length = xs.length := by
  simp; omega

theorem mut_sound {P : Program} {R : CallRel} (hR : RSound P R) {E : Env} {w0 : World} {okb : Nat → Prop} {s : AS} {g : FuncId} {as : List AV} {vs : List Value} {r : Res} (hF : Frm E w0 okb) (hM : MemRel E w0.heap.size s.mem)
    (hy : MutYields R s g as r) (hvs : Reps E as vs) :
    Enters P g ∧ Calls P g vs.toArray E.w fun e w' => ∃ v E', e = .returned v ∧ E'.w = w' ∧ Stepped E w0 okb s.mem s.nx r v E' := by
  obtain ⟨id, off, len, sz, xs, ys, rfl, hg, hol, hlen, hRv, rfl⟩ := hy
  obtain ⟨hen, _, hmut⟩ := hR g _ _ hRv
  obtain ⟨e1, hrev⟩ := hmut _ _ rfl
  obtain rfl : ys = ((xs.drop off).take len).reverse := by simpa using e1
  refine ⟨hen, ?_⟩
  obtain ⟨x, rfl⟩ : ∃ x, vs = [x] := List.length_eq_one_iff.1 hvs.1
  have hx := hvs.2 0 _ x rfl rfl
  rcases hx.own_inv.2 with ⟨hl, rfl, h0, h1⟩ | ⟨b, o, z, cap, hl, rfl, hc, c0, t0, f0, hb0, hroom⟩
  · omega
  · have hzz := row_loc hM (.inl hg) hl
    subst hzz
    have hr := (hM.arr id _ hg).2
    simp only [ArrRel, hl] at hr
    obtain ⟨c, t, hb, hbase, hnok, hsz, _, hcells⟩ := hr
    have hwin : (off + len) * z ≤ xs.length * z := Nat.mul_le_mul_right z hol
    rw [Nat.add_mul] at hwin
    have one : ∀ k v, o + off * z ≤ k → k < o + off * z + len * z → c[k]? = some v → v.oneCell' = true := by
      intro k v h1 h2 h3
      have hz0 : 0 < z := by
        rcases Nat.eq_zero_or_pos z with e | e
        · subst e; simp only [Nat.mul_zero] at h1 h2; omega
        · exact e
      have hd : (k - o) / z < xs.length := by
        rw [Nat.div_lt_iff_lt_mul hz0]; omega
      have hrow : xs[(k - o) / z]? = some xs[(k - o) / z] := List.getElem?_eq_getElem hd
      obtain ⟨q1, q2⟩ := hcells _ _ hrow
      obtain ⟨y, q3, q4, _⟩ := q2 ((k - o) % z) _ (List.getElem?_eq_getElem (by rw [q1]; exact Nat.mod_lt _ hz0))
      have : o + (k - o) / z * z + (k - o) % z = k := by have := Nat.div_add_mod' (k - o) z; omega
      rw [this, h3] at q3
      obtain rfl := Option.some.inj q3
      exact q4
    refine (hrev b (o + off * z) len cap c t E.w hlen.1 hlen.2 hc hb (by omega) one).mono ?_
    rintro e w' ⟨rfl, q, c', rfl, hs', hin, hout⟩
    obtain ⟨hle1, hF1, hat, hmem⟩ := set_block (drawN_frm hF q) (drawN_mem hM q) (c' := c') hg rfl hl hb hbase hnok hs'
    refine ⟨.tuple #[], (E.drawN q).set b c', rfl, rfl, (drawN_le E q).trans hle1, fun id' => ⟨.inl, fun h => h.elim (fun h => h) (fun h => by simp only [mutRes] at h; omega)⟩, Nat.le_refl _, hF1, hmem _ ?_, .tup [] [] rfl (by simp)⟩
    simp only [ArrRel]
    rw [show ((E.drawN q).set b c').loc id = some (b, o, z) from hl]
    refine ⟨c', t, hat, hbase, hnok, by rw [mir_len hol, hs']; exact hsz, rfl, ?_⟩
    intro k row hk
    rw [mir_get hol] at hk
    obtain ⟨q1, q2⟩ := hcells _ _ hk
    refine ⟨q1, fun j a hj => ?_⟩
    obtain ⟨y, q3, q4, q5⟩ := q2 j a hj
    refine ⟨y, ?_, q4, q5.mono ((drawN_le E q).trans hle1).ok ((drawN_le E q).trans hle1).blk⟩
    rw [← q3]
    have hjz : j < z := by rw [← q1]; exact (List.getElem?_eq_some_iff.1 hj).1
    unfold mir
    split
    · rename_i hkw
      have h1 := hin (k - off) j (by omega) hjz
      have e1 : off * z + (k - off) * z = k * z := by rw [← Nat.add_mul]; congr 1; omega
      have e2 : off * z + (len - 1 - (k - off)) * z = (off + (len - 1 - (k - off))) * z := by rw [Nat.add_mul]
      rw [show o + off * z + (k - off) * z + j = o + k * z + j by omega] at h1
      rw [h1]
      congr 1
      omega
    · rename_i hkw
      refine hout _ ?_
      by_cases hlt : k < off
      · have := idx_lt hlt hjz
        left; omega
      · have : (off + len) * z ≤ k * z := Nat.mul_le_mul_right z (by omega)
        rw [Nat.add_mul] at this
        right; omega

theorem call_sound {P : Program} {R : CallRel} (hR : RSound P R) {E : Env} {w0 : World} {okb : Nat → Prop} {s : AS} {g : FuncId} {as : List AV} {vs : List Value} {r : Res} (hF : Frm E w0 okb) (hM : MemRel E w0.heap.size s.mem)
    (hy : CallYields R s g as r) (hvs : Reps E as vs) (hid : ∀ id, s.nx ≤ id → id < r.nx → ¬ E.al id) :
    Enters P g ∧ Calls P g vs.toArray E.w fun e w' => ∃ v E', e = .returned v ∧ E'.w = w' ∧ Stepped E w0 okb s.mem s.nx r v E' := by
  rcases hy with hy | hy
  · exact call_sound0 hR hF hM hy hvs hid
  · exact mut_sound hR hF hM hy hvs

/-- What an operation yields. -/
def AYields (P : Program) (R : CallRel) (o : Oper) (s : AS) (r : Res) : Prop :=
  match o.op with
  | .call ⟨.value f, args, ts⟩ => ∃ x, callee s ⟨.value f, args, ts⟩ = some x ∧ CallYields R s x.1 x.2 r
  | _ => ev P o s = some r

theorem aop_yields {P : Program} {R : CallRel} {o : Oper} {s : AS} {K : Res → Prop} (h : aop P R o s K) : ∃ r, AYields P R o s r ∧ K r := by
  obtain ⟨dst, op, type, pos, after, guard⟩ := o
  have other : optK (ev P ⟨dst, op, type, pos, after, guard⟩ s) K → ∃ r, ev P ⟨dst, op, type, pos, after, guard⟩ s = some r ∧ K r := by
    intro h
    unfold optK at h
    split at h
    · rename_i r hr; exact ⟨r, hr, h⟩
    · exact h.elim
  cases op with
  | call c =>
    obtain ⟨cl, args, ts⟩ := c
    cases cl with
    | value f =>
      unfold aop at h
      simp only [optK] at h
      split at h
      · rename_i x hx
        obtain ⟨r, h1, h2⟩ := acall_yields h
        exact ⟨r, ⟨x, hx, h1⟩, h2⟩
      · exact h.elim
    | _ => exact other h
  | _ => exact other h

theorem run_callFunc {P : Program} {g : FuncId} (h : Enters P g) (vs : Array Value) (w : World) : (callFunc g vs).run P w = .ok (.enter g vs) w := by
  obtain ⟨fn, c, h1, h2, h3⟩ := h
  simp [callFunc, Sem.run_bind, run_program, Result.andThen_ok, h1, h2, by simpa using h3]

theorem callee_sound {E : Env} {P : Program} {s : AS} {a : Act} (hT : TmOk E s a) {c : Call} {x : FuncId × List AV} (h : callee s c = some x) (dst : Option Tmp) (type : TypeId) (pos : String) (after : Array Edge) (guard : Option (Nat × Bool)) (w : World) :
    ∃ vs : List Value, Reps E x.2 vs ∧ (execOp a.eval ⟨dst, .call c, type, pos, after, guard⟩).run P w = (callFunc x.1 vs.toArray).run P w := by
  unfold callee at h
  split at h
  · rename_i f hf
    split at h
    · rename_i g first cap as hfn has
      obtain rfl := Option.some.inj h
      obtain ⟨fv, cv, he, r1, r2⟩ := (opr_sound hT hfn).fn_inv
      have r3 := oprs_sound hT has
      refine ⟨fv ++ c.args.toList.map a.eval ++ cv, ⟨by simp [r1.1, r2.1, r3.1], fun j q v hj hv => ?_⟩, ?_⟩
      · rw [List.append_assoc] at hj hv
        by_cases c1 : j < first.length
        · rw [List.getElem?_append_left c1] at hj
          rw [List.getElem?_append_left (by rw [r1.1]; exact c1)] at hv
          exact r1.2 j q v hj hv
        · rw [List.getElem?_append_right (by omega)] at hj
          rw [List.getElem?_append_right (by rw [r1.1]; omega), r1.1] at hv
          by_cases c2 : j - first.length < as.length
          · rw [List.getElem?_append_left c2] at hj
            rw [List.getElem?_append_left (by rw [r3.1]; exact c2)] at hv
            exact r3.2 _ q v hj hv
          · rw [List.getElem?_append_right (by omega)] at hj
            rw [List.getElem?_append_right (by rw [r3.1]; omega), r3.1] at hv
            exact r2.2 _ q v hj hv
      · simp only [execOp, resolve, hf, he, Deferred.ofValue, Sem.run_bind, Sem.run_pure, Result.andThen_ok, invoke]
        congr 2
        exact Array.ext' (by simp)
    · exact absurd h (by simp)
  · exact absurd h (by simp)

/-- An operation. -/
theorem op_sound {P : Program} {R : CallRel} (hR : RSound P R) {E : Env} {w0 : World} {okb : Nat → Prop} {s : AS} {o : Oper} {a : Act} {r : Res} (hF : Frm E w0 okb) (hM : MemRel E w0.heap.size s.mem) (hT : TmOk E s a)
    (h : AYields P R o s r) (hid : ∀ id, s.nx ≤ id → id < r.nx → ¬ E.al id) {K : Act → World → Prop} {Q : Exit → Act → World → Prop} (hK : ∀ x E', Stepped E w0 okb s.mem s.nx r x E' → K (a.put o.dst x) E'.w) : o.wp P a E.w K Q := by
  unfold AYields at h
  split at h
  · rename_i f args ts hop
    obtain ⟨x, hx, hy⟩ := h
    obtain ⟨dst, op, type, pos, after, guard⟩ := o
    obtain rfl : op = _ := hop
    obtain ⟨vs, hvs, hrun⟩ := callee_sound (P := P) hT hx dst type pos after guard E.w
    obtain ⟨hen, hc⟩ := call_sound hR hF hM hy hvs hid
    unfold Oper.wp
    rw [hrun, run_callFunc hen, Oper.upon_enter]
    refine hc.mono ?_
    rintro e w' ⟨v, E', rfl, rfl, hS⟩
    exact hK v E' hS
  · obtain ⟨x, E', hrun, hS⟩ := ev_sound hF hM hT h hid
    unfold Oper.wp
    rcases hrun with hrun | ⟨hrun, rfl⟩
    · rw [hrun, Oper.upon_value]; exact hK x E' hS
    · rw [hrun, Oper.upon_skip]; exact hK undef E' hS
end Go.Ab
