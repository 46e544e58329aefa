/- The abstract interpreter: a region whose operations may come in any order, sound. -/
import Derived.Test.YtmdeiagmlabfmaaDoorAb27
set_option linter.unusedVariables false
set_option linter.unusedSimpArgs false
set_option linter.unusedSectionVars false

section
namespace Go.Ab
open Go.RowKit (Below)

theorem draw_sound {P : Program} {R : CallRel} (hR : RSound P R) {ops : Array Oper} {n : Nat} {w0 : World} {okb : Nat → Prop} {Q : Exit → Act → World → Prop} {s0 s' : AS} {zs : List (Oper × Option Res)} (hz1 : zs.map (·.1) = ops.toList)
    (hst : ∀ (i : Nat) (o : Oper) (x : Option Res), zs[i]? = some (o, x) → StepC P R ops o (stL zs (fun q => decide (q < i)) 0 s0) x) (hend : stL zs (fun q => decide (q < ops.size)) 0 s0 = s')
    (hord : ordOk ops = true) (htm : tmpsOk ops = true) (hnc : noConf (Region.before ops) (((zs.map (·.2)).map logOf).reverse ++ []) = true) (hd : ∀ o, o ∈ ops.toList → ∀ d, o.dst = some d → d < n)
    (hQ : ∀ a' w', Good n w0 okb s' a' w' → Q .normal a' w') : ∀ (fuel : Nat) (listed : Array Bool) (a : Act) (E : Env), listed.size = ops.size → listed.toList.count false = fuel → Closed ops (fun i => listed.getD i false) →
    GoodE E n w0 okb (stL zs (fun i => listed.getD i false) 0 s0) a →
    (∀ id, E.al id → id < s0.nx ∨ ∃ i, listed.getD i false = true ∧ i < zs.length ∧ (stL zs (fun q => decide (q < i)) 0 s0).nx ≤ id ∧ id < (stL zs (fun q => decide (q < i + 1)) 0 s0).nx) →
    wpAny P .any ops Q fuel listed a E.w := by
  have hlen : zs.length = ops.size := by have := congrArg List.length hz1; simpa using this
  have opAt : ∀ (i : Nat) (o : Oper) (x : Option Res), zs[i]? = some (o, x) → ops[i]? = some o := by
    intro i o x h
    have : (zs.map (·.1))[i]? = some o := by simp [h]
    rw [hz1] at this
    simpa using this
  have xAt : ∀ (i : Nat) (o : Oper) (x : Option Res), zs[i]? = some (o, x) → (zs.map (·.2))[i]? = some x := fun i o x h => by simp [h]
  have zAt : ∀ (i : Nat), i < zs.length → ∃ o x, zs[i]? = some (o, x) := fun i h => ⟨zs[i].1, zs[i].2, by rw [List.getElem?_eq_getElem h]⟩
  have hsucc : ∀ (i : Nat) (o : Oper) (x : Option Res), zs[i]? = some (o, x) → stL zs (fun q => decide (q < i + 1)) 0 s0 = stp o x (stL zs (fun q => decide (q < i)) 0 s0) := by
    intro i o x h
    have := stL_succ (k := 0) (s := s0) h
    rw [stL_congr (L' := fun q => decide (q < 0 + i + 1)) (fun j _ => by simp), this, stL_congr (L := fun q => decide (q < i)) (L' := fun q => decide (q < 0 + i)) (fun j _ => by simp)]
  have hnx1 : ∀ i, i < zs.length → (stL zs (fun q => decide (q < i)) 0 s0).nx ≤ (stL zs (fun q => decide (q < i + 1)) 0 s0).nx := by
    intro i hi
    obtain ⟨o, x, hz⟩ := zAt i hi
    rw [hsucc i o x hz, stp_nx]
    exact (hst i o x hz).nx
  have hnx : ∀ j i, i ≤ j → j ≤ zs.length → (stL zs (fun q => decide (q < i)) 0 s0).nx ≤ (stL zs (fun q => decide (q < j)) 0 s0).nx := by
    intro j
    induction j with
    | zero => intro i hi _; obtain rfl : i = 0 := by omega
              exact Nat.le_refl _
    | succ j ih =>
      intro i hi hj
      by_cases h : i = j + 1
      · subst h; exact Nat.le_refl _
      · exact Nat.le_trans (ih i (by omega) (by omega)) (hnx1 j (by omega))
  have h00 : (stL zs (fun q => decide (q < 0)) 0 s0) = s0 := stL_none (by simp)
  have hnx0 : ∀ j, j ≤ zs.length → s0.nx ≤ (stL zs (fun q => decide (q < j)) 0 s0).nx := fun j hj => by
    have := hnx j 0 (by omega) hj
    rwa [h00] at this
  have finish : ∀ (listed : Array Bool) (a : Act) (E : Env), (∀ j, j < ops.size → listed.getD j false = true) → GoodE E n w0 okb (stL zs (fun i => listed.getD i false) 0 s0) a →
      (∀ id, E.al id → id < s0.nx ∨ ∃ i, listed.getD i false = true ∧ i < zs.length ∧ (stL zs (fun q => decide (q < i)) 0 s0).nx ≤ id ∧ id < (stL zs (fun q => decide (q < i + 1)) 0 s0).nx) → Q .normal a E.w := by
    intro listed a E hall hG hal
    have e : stL zs (fun i => listed.getD i false) 0 s0 = s' := by
      rw [← hend]
      exact stL_congr fun j hj => by simp only [Nat.zero_add]; rw [hall j (by omega)]; simp; omega
    rw [e] at hG
    refine hQ a E.w ⟨E, rfl, fun id h => ?_, hG⟩
    rw [← hend, ← hlen]
    rcases hal id h with h | ⟨i, _, hi, _, h⟩
    · have := hnx0 zs.length (Nat.le_refl _); omega
    · have := hnx zs.length (i + 1) (by omega) (Nat.le_refl _); omega
  intro fuel
  induction fuel with
  | zero =>
    intro listed a E hsz hcnt hcl hG hal
    have hall : ∀ j, j < ops.size → listed.getD j false = true := by
      intro j hj
      have hj' : j < listed.size := by omega
      cases hb : listed[j] with
      | true => simp [Array.getD, hj', hb]
      | false =>
        have : false ∈ listed.toList := by rw [← hb]; simp
        have := List.count_pos_iff.2 this
        omega
    refine ⟨?_, finish listed a E hall hG hal⟩
    cases hr : Region.ready .any ops listed with
    | nil => rfl
    | cons j l =>
      obtain ⟨h1, o, ho, _⟩ := mem_ready.1 (show j ∈ Region.ready .any ops listed by rw [hr]; simp)
      have hlt := (Array.getElem?_eq_some_iff.1 ho).1
      have h2 := hall j hlt
      have hj' : j < listed.size := by omega
      simp [Array.getD, hj'] at h1 h2
      rw [h1] at h2; cases h2
  | succ fuel ih =>
    intro listed a E hsz hcnt hcl hG hal
    refine ⟨fun hr => finish listed a E ?_ hG hal, fun i hi => ?_⟩
    · intro j
      induction j using Nat.strongRecOn with
      | _ j ihj =>
        intro hj
        apply Classical.byContradiction
        intro hc
        obtain ⟨o, ho⟩ : ∃ o, ops[j]? = some o := ⟨_, Array.getElem?_eq_getElem hj⟩
        have : j ∈ Region.ready .any ops listed := by
          refine mem_ready.2 ⟨?_, o, ho, fun e he hb => ihj e.on (ordOk_spec hord ho he hb) (by have := ordOk_spec hord ho he hb; omega)⟩
          have hj' : j < listed.size := by omega
          simpa [Array.getD, hj'] using hc
        rw [hr] at this
        cases this
    · obtain ⟨hun, o, ho, hedges⟩ := mem_ready.1 hi
      have hlt : i < ops.size := (Array.getElem?_eq_some_iff.1 ho).1
      have hli : i < listed.size := by omega
      have hun' : listed.getD i false = false := by simpa [Array.getD, hli] using hun
      obtain ⟨o', x, hz⟩ := zAt i (by omega)
      obtain rfl : o' = o := by have := opAt i o' x hz; rw [ho] at this; exact (Option.some.inj this).symm
      -- who is before i is listed; whom i is before is not
      have bef1 : ∀ j, ((Region.before ops).getD i 0).testBit j = true → listed.getD j false = true := fun j h => closed_before hcl i j o' ho hedges h
      have bef2 : ∀ (j : Nat) (oj : Oper), ops[j]? = some oj → listed.getD j false = true → ((Region.before ops).getD j 0).testBit i ≠ true := by
        intro j oj hj hlj h
        have := closed_before hcl j i oj hj (hcl j oj hj hlj) h
        rw [hun'] at this; cases this
      -- what differs from the state in text order does not matter to i
      have differ : ∀ (j : Nat) (oj : Oper) (xj : Option Res), zs[j]? = some (oj, xj) → decide (0 + j < i) ≠ listed.getD (0 + j) false → (∀ d, oj.dst = some d → d ∉ o'.looksAt ops) ∧ ∀ id, id ∈ (logOf xj).2 → id ∉ (logOf x).1 := by
        intro j oj xj hj hne
        simp only [Nat.zero_add] at hne
        by_cases hji : j < i
        · have hlj : listed.getD j false = false := by
            cases hb : listed.getD j false with
            | false => rfl
            | true => rw [hb] at hne; simp [hji] at hne
          have nb : ((Region.before ops).getD i 0).testBit j ≠ true := fun h => by rw [bef1 j h] at hlj; cases hlj
          refine ⟨(Oper.apart_spec ((tmpsOk_spec htm (opAt j oj xj hj) ho hji).resolve_left nb)).1, fun id hid => ?_⟩
          exact ((clash_spec ((noConf_spec hnc (xAt j oj xj hj) (xAt i o' x hz) hji).resolve_left nb)).1 id hid).1
        · have hlj : listed.getD j false = true := by
            cases hb : listed.getD j false with
            | true => rfl
            | false => rw [hb] at hne; simp [hji] at hne
          have hji' : i < j := by
            rcases Nat.lt_or_ge i j with h | h
            · exact h
            · obtain rfl : j = i := by omega
              rw [hun'] at hlj; cases hlj
          have nb := bef2 j oj (opAt j oj xj hj) hlj
          refine ⟨(Oper.apart_spec ((tmpsOk_spec htm ho (opAt j oj xj hj) hji').resolve_left nb)).2.2, fun id hid => ?_⟩
          exact (clash_spec ((noConf_spec hnc (xAt i o' x hz) (xAt j oj xj hj) hji').resolve_left nb)).2 id hid
      -- the step
      let sL : AS := ⟨(stL zs (fun i => listed.getD i false) 0 s0).tm, (stL zs (fun i => listed.getD i false) 0 s0).mem, (stL zs (fun q => decide (q < i)) 0 s0).nx⟩
      obtain ⟨x', hc', hstp, hnxx⟩ := stepC_foot (s' := sL) (hst i o' x hz) rfl (fun t ht => (stL_tm (fun j oj xj hj hne e => (differ j oj xj hj hne).1 t e ht) rfl).symm)
        (fun id hid => (stL_mem (fun j oj xj hj hne => rm_none fun h => (differ j oj xj hj hne).2 id h hid) rfl).symm)
      have hGL : GoodE E n w0 okb sL a := hG.same ⟨fun _ => rfl, fun _ => rfl⟩
      have hrange : nxOf sL x' = (stL zs (fun q => decide (q < i + 1)) 0 s0).nx := by
        rw [hsucc i o' x hz, stp_nx, hnxx]
        cases x <;> rfl
      refine stepC_sound hR ho hGL hc' (fun id h1 h2 h3 => ?_) (hd o' (Array.mem_toList_iff.2 (Array.mem_of_getElem? ho))) fun E' a' hG' hal' => ?_
      · rw [hrange] at h2
        simp only [sL] at h1
        rcases hal id h3 with h | ⟨j, hj1, hj2, hj3, hj4⟩
        · have := hnx0 i (by omega); omega
        · rcases Nat.lt_trichotomy j i with h | h | h
          · have := hnx i (j + 1) (by omega) (by omega); omega
          · subst h; rw [hun'] at hj1; cases hj1
          · have := hnx j (i + 1) (by omega) (by omega); omega
      · have hset : ∀ j, (listed.setIfInBounds i true).getD j false = if j = i then true else listed.getD j false := by
          intro j
          by_cases h : j = i
          · subst h; simp [Array.getD, hli]
          · rw [if_neg h, getD_set_ne false (Ne.symm h)]
        refine ih (listed.setIfInBounds i true) a' E' (by simpa using hsz) ?_ ?_ (hG'.same ?_) ?_
        · have : listed.toList[i]? = some false := by
            rw [Array.getElem?_toList, Array.getElem?_eq_getElem hli]
            simpa [Array.getD, hli] using hun'
          have := count_set this
          rw [Array.toList_setIfInBounds]
          omega
        · intro j oj hj hlj e he hb
          simp only [hset] at hlj ⊢
          split
          · rfl
          · split at hlj
            · rename_i h; subst h
              rw [ho] at hj
              obtain rfl := Option.some.inj hj
              exact hedges e he hb
            · exact hcl j oj hj hlj e he hb
        · rw [hstp]
          refine (stp_same (s := sL) (s' := stL zs (fun i => listed.getD i false) 0 s0) ⟨fun _ => rfl, fun _ => rfl⟩).trans (Same.symm ?_)
          refine stL_insert (i := i) hz (by simpa using hun') (by simp only [Nat.zero_add]; rw [hset, if_pos rfl]) (fun j hj => by simp only [Nat.zero_add] at hj; rw [hset, if_neg hj]) fun j o2 x2 hij hz2 hl2 => ?_
          simp only [Nat.zero_add] at hl2
          have nb := bef2 j o2 (opAt j o2 x2 hz2) hl2
          refine ⟨(Oper.apart_spec ((tmpsOk_spec htm ho (opAt j o2 x2 hz2) hij).resolve_left nb)).2.1, fun id v hg => rm_none ?_⟩
          exact ((clash_spec ((noConf_spec hnc (xAt i o' x hz) (xAt j o2 x2 hz2) hij).resolve_left nb)).1 id (rm_some hg)).2
        · intro id hid
          rcases (hal' id).1 hid with h | ⟨h1, h2⟩
          · rcases hal id h with h | ⟨j, hj1, hj2⟩
            · exact .inl h
            · refine .inr ⟨j, ?_, hj2⟩
              rw [hset]
              split
              · rfl
              · exact hj1
          · rw [hrange] at h2
            exact .inr ⟨i, by rw [hset, if_pos rfl], by omega, h1, h2⟩
end Go.Ab
end

section
namespace Go.Ab
open Go.RowKit (Below)

theorem frm_drew {E : Env} {n : Nat} {w0 : World} {okb : Nat → Prop} {s : AS} {a : Act} (h : GoodE E n w0 okb s a) (w' : World) (hw : w' = { E.w with drawn := E.w.drawn + 1 }) : GoodE { E with w := w' } n w0 okb s a := by
  subst hw
  obtain ⟨hF, hD, hn, hT, hM⟩ := h
  have hle : E.Le { E with w := { E.w with drawn := E.w.drawn + 1 } } := ⟨fun _ h => h, fun _ _ => rfl, fun _ h => ⟨h, rfl⟩, fun _ c _ f h => ⟨c, f, h, rfl⟩⟩
  refine ⟨⟨⟨hF.below.os, hF.below.tape, hF.below.output, hF.below.size, hF.below.block⟩, hF.okb, hF.lt⟩, hD, hn, fun t v ht => ?_, hM.mono hle fun i arr hg hm b o z hl => ⟨rfl, (mut_fact hM hg hm hl).1⟩⟩
  obtain ⟨x, h1, h2⟩ := hT t v ht
  exact ⟨x, h1, h2.mono hle⟩

structure ExOk (n : Nat) (w0 : World) (okb : Nat → Prop) (Q : Ex → AS → Prop) (Qm : Exit → Act → World → Prop) : Prop where
  normal : ∀ s a w, Q .normal s → Good n w0 okb s a w → Qm .normal a w
  exit : ∀ i s a w, Q (.exit i) s → Good n w0 okb s a w → Qm (.exit i) a w
  ret : ∀ s a w, Q .ret s → Good n w0 okb s a w → Qm .ret a w

theorem dsts_region {n id : Nat} {ops : Array Oper} {dr : Bool} (h : dstsOk n (.region id ops dr) = true) : ∀ o, o ∈ ops.toList → ∀ d, o.dst = some d → d < n := by
  intro o ho d hd
  unfold dstsOk at h
  have := (Array.all_eq_true'.1 h) o (by simpa using ho)
  simpa [hd] using this

theorem awp_sound {P : Program} {R : CallRel} (hR : RSound P R) (hm : P.follows .mixedOrders = true) {n : Nat} {w0 : World} {okb : Nat → Prop} : ∀ (c : Code) (Q : Ex → AS → Prop) (Qm : Exit → Act → World → Prop) (s : AS) (a : Act) (w : World),
    dstsOk n c = true → ExOk n w0 okb Q Qm → awp P R c Q s → Good n w0 okb s a w → c.wp P Qm a w := by
  intro c
  induction c with
  | skip => exact fun Q Qm s a w _ hQ h hg => wp_skip (hQ.normal s a w h hg)
  | exit i => exact fun Q Qm s a w _ hQ h hg => wp_exit (hQ.exit i s a w h hg)
  | ret => exact fun Q Qm s a w _ hQ h hg => wp_ret (hQ.ret s a w h hg)
  | region id ops dr =>
    intro Q Qm s a w hd hQ h hg
    have hdd := dsts_region hd
    cases dr with
    | false =>
      obtain ⟨xs, s', ht, hk⟩ := awops_trace (show awops P R ops ops.toList s [] _ from h)
      refine wp_region ?_
      have := text_sound (k := 0) (Q := Qm) hR (fun j o h => by simpa using h) hdd ht hg (fun a' w' hg' => hQ.normal s' a' w' hk hg')
      rw [List.range_eq_range']
      simpa using this
    | true =>
      obtain ⟨xs, s', ht, hk⟩ := awops_trace (show awops P R ops ops.toList s [] _ from h)
      obtain ⟨⟨k1, k2, k3⟩, hk⟩ := hk
      obtain ⟨h1, h2, h3, h4⟩ := trace_at (k := 0) ht
      refine wp_region_any hm ?_
      obtain ⟨E, rfl, hal, hG⟩ := hg
      have hz : ∀ j, (Array.replicate ops.size false).getD j false = false := by
        intro j
        simp only [Array.getD_eq_getD_getElem?, Array.getElem?_replicate]
        split <;> rfl
      refine draw_sound (zs := ops.toList.zip xs) (s0 := s) (s' := s') hR h1 (fun i o x hi => ?_) ?_ k1 k2 (by rw [h2]; exact k3) hdd (fun a' w' hg' => hQ.normal s' a' w' hk hg') ops.size (Array.replicate ops.size false) a { E with w := { E.w with drawn := E.w.drawn + 1 } } (by simp) (by simp)
        (fun j o _ hL => by simp only [hz] at hL; cases hL) ?_ (fun id hid => .inl (hal id hid))
      · have := h3 i o x hi
        rwa [stL_congr (L := fun q => decide (q < 0 + i)) (L' := fun q => decide (q < i)) (fun j _ => by simp)] at this
      · rw [← h4]
        exact stL_congr fun j _ => by simp
      · rw [stL_none fun j _ => hz j]
        exact frm_drew hG _ rfl
  | seq x y ihx ihy =>
    intro Q Qm s a w hd hQ h hg
    have hd : dstsOk n x = true ∧ dstsOk n y = true := by simpa [dstsOk] using hd
    exact wp_seq (ihx (Ex.then (awp P R y Q) Q) _ s a w hd.1 ⟨fun s a w h hg => ihy Q Qm s a w hd.2 hQ h hg, fun i s a w h hg => hQ.exit i s a w h hg, fun s a w h hg => hQ.ret s a w h hg⟩ h hg)
  | cond c x y ihx ihy =>
    intro Q Qm s a w hd hQ h hg
    have hd : dstsOk n x = true ∧ dstsOk n y = true := by simpa [dstsOk] using hd
    simp only [awp, optK] at h
    split at h
    · rename_i t ht
      have hc : a.eval c = .bool t := by
        obtain ⟨E, _, _, _, _, _, hT, _⟩ := hg
        unfold condVal at ht
        split at ht
        · rename_i t' hc
          obtain rfl := Option.some.inj ht
          exact (opr_sound hT hc).sc_inv
        · exact absurd ht (by simp)
      unfold Br at h
      split at h
      · rename_i e; subst e; exact wp_cond_true hc (ihx Q Qm s a w hd.1 hQ h hg)
      · rename_i e
        obtain rfl : t = false := by simpa using e
        exact wp_cond_false hc (ihy Q Qm s a w hd.2 hQ h hg)
    · exact h.elim
  | block id x ihx =>
    intro Q Qm s a w hd hQ h hg
    refine wp_block (ihx (Ex.inBlock id Q) _ s a w (by simpa [dstsOk] using hd) ⟨fun s a w h hg => hQ.normal s a w h hg, fun i s a w h hg => ?_, fun s a w h hg => hQ.ret s a w h hg⟩ h hg)
    simp only [Ex.inBlock, Br, beq_iff_eq] at h
    simp only [Exit.inBlock]
    split
    · rename_i e; rw [if_pos e] at h; exact hQ.normal s a w h hg
    · rename_i e; rw [if_neg e] at h; exact hQ.exit i s a w h hg
  | loop x ihx =>
    intro Q Qm s a w hd hQ h hg b k cs
    have hd : dstsOk n x = true := by simpa [dstsOk] using hd
    obtain ⟨e, a', w', q, r⟩ := (show ∀ I : AS → Prop, (∀ s s', Weak s s' → awp P R x (Ex.then I Q) s' → I s) → I s from h)
      (fun s => ∀ a w, Good n w0 okb s a w → ∀ (b : Frame) (k : List Item) (cs : List Frame), ∃ e a' w', Qm e a' w' ∧ Arrives P (lone (b.at a (.code x :: .inLoop x :: k)) cs w) b k cs e a' w')
      (fun s s' hW hb a w hg b k cs => by
        have := ihx (Ex.then (fun s => ∀ a w, Good n w0 okb s a w → ∀ (b : Frame) (k : List Item) (cs : List Frame), ∃ e a' w', Qm e a' w' ∧ Arrives P (lone (b.at a (.code x :: .inLoop x :: k)) cs w) b k cs e a' w') Q) (fun e a w => match e with
          | .normal => ∀ (b : Frame) (k : List Item) (cs : List Frame), ∃ e a' w', Qm e a' w' ∧ Arrives P (lone (b.at a (.code x :: .inLoop x :: k)) cs w) b k cs e a' w'
          | e => Qm e a w) s' a w hd ⟨fun s a w h hg => h a w hg, fun i s a w h hg => hQ.exit i s a w h hg, fun s a w h hg => hQ.ret s a w h hg⟩ hb (hW n w0 okb a w hg)
        obtain ⟨e, a₁, w₁, hq, harr⟩ := this b (.inLoop x :: k) cs
        cases e with
        | normal =>
          obtain ⟨e₂, a₂, w₂, hq₂, harr₂⟩ := hq b k cs
          exact ⟨e₂, a₂, w₂, hq₂, .of_steps (Steps.trans harr (.one step_inLoop)) harr₂⟩
        | exit id => exact ⟨_, a₁, w₁, hq, .pass (x := .inLoop x) rfl (fun _ _ => .inl (by simp)) harr⟩
        | goto l => exact ⟨_, a₁, w₁, hq, .pass (x := .inLoop x) rfl (fun _ _ => .inl (by simp)) harr⟩
        | ret => exact ⟨_, a₁, w₁, hq, .pass (x := .inLoop x) rfl (fun _ _ => .inl (by simp)) harr⟩
        | panic ch => exact ⟨_, a₁, w₁, hq, .pass (x := .inLoop x) rfl (fun _ _ => .inl (by simp)) harr⟩
        | outgrown => exact ⟨_, a₁, w₁, hq, .pass (x := .inLoop x) rfl (fun _ _ => .inl (by simp)) harr⟩) a w hg b k cs
    exact ⟨e, a', w', q, .of_steps (.one step_loop) r⟩
  | _ => exact fun Q Qm s a w _ _ h _ => (show False from h).elim
end Go.Ab
end
