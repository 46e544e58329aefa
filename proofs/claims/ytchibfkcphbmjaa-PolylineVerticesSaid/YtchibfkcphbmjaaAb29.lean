/- The abstract interpreter: code, sound. -/
import Derived.Test.YtchibfkcphbmjaaAb28
set_option linter.unusedVariables false
set_option linter.unusedSimpArgs false
set_option linter.unusedSectionVars false

namespace Go.Ab
open Go.RowKit (Below)

theorem frm_drew {E : Env} {n : Nat} {w0 : World} {okb : Nat → Prop} {s : AS} {a : Act} (h : GoodE E n w0 okb s a) (w' : World) (hw : w' = { E.w with drawn := E.w.drawn + 1 }) : GoodE { E with w := w' } n w0 okb s a := by
  subst hw
  obtain ⟨hF, hD, hn, hT, hM⟩ := h
  have hle : E.Le { E with w := { E.w with drawn := E.w.drawn + 1 } } := ⟨fun _ h => h, fun _ _ => rfl, fun _ h => ⟨h, rfl⟩, fun _ c _ f h => ⟨c, f, h, rfl⟩⟩
  refine ⟨⟨⟨hF.below.os, hF.below.tape, hF.below.output, hF.below.size, hF.below.block⟩, hF.okb, hF.lt⟩, hD, hn, fun t v ht => ?_, hM.mono hle fun i arr hg hm b o z hl => ⟨rfl, (mut_fact hM hg hm hl).1⟩⟩
  obtain ⟨x, h1, h2⟩ := hT t v ht
  exact ⟨x, h1, h2.mono hle⟩

structure ExOk (n : Nat) (w0 : World) (okb : Nat → Prop) (Q : Ex → AS → Prop) (Qm : Exit → Act → World → Prop) : Prop where
  normal : ∀ s a w, Q .normal s → Good n w0 okb s a w → Qm .normal a w
  exit : ∀ i s a w, Q (.exit i) s → Good n w0 okb s a w → Qm (.exit i) a w
  ret : ∀ s a w, Q .ret s → Good n w0 okb s a w → Qm .ret a w

theorem dsts_region {n id : Nat} {ops : Array Oper} {dr : Bool} (h : dstsOk n (.region id ops dr) = true) : ∀ o, o ∈ ops.toList → ∀ d, o.dst = some d → d < n := by
  intro o ho d hd
  unfold dstsOk at h
  have := (Array.all_eq_true'.1 h) o (by simpa using ho)
  simpa [hd] using this

theorem awp_sound {P : Program} {R : CallRel} (hR : RSound P R) (hm : P.follows .mixedOrders = true) {n : Nat} {w0 : World} {okb : Nat → Prop} : ∀ (c : Code) (Q : Ex → AS → Prop) (Qm : Exit → Act → World → Prop) (s : AS) (a : Act) (w : World),
    dstsOk n c = true → ExOk n w0 okb Q Qm → awp P R c Q s → Good n w0 okb s a w → c.wp P Qm a w := by
  intro c
  induction c with
  | skip => exact fun Q Qm s a w _ hQ h hg => wp_skip (hQ.normal s a w h hg)
  | exit i => exact fun Q Qm s a w _ hQ h hg => wp_exit (hQ.exit i s a w h hg)
  | ret => exact fun Q Qm s a w _ hQ h hg => wp_ret (hQ.ret s a w h hg)
  | region id ops dr =>
    intro Q Qm s a w hd hQ h hg
    have hdd := dsts_region hd
    cases dr with
    | false =>
      obtain ⟨xs, s', ht, hk⟩ := awops_trace (show awops P R ops ops.toList s [] _ from h)
      refine wp_region ?_
      have := text_sound (k := 0) (Q := Qm) hR (fun j o h => by simpa using h) hdd ht hg (fun a' w' hg' => hQ.normal s' a' w' hk hg')
      rw [List.range_eq_range']
      simpa using this
    | true =>
      obtain ⟨xs, s', ht, hk⟩ := awops_trace (show awops P R ops ops.toList s [] _ from h)
      obtain ⟨⟨k1, k2, k3⟩, hk⟩ := hk
      obtain ⟨h1, h2, h3, h4⟩ := trace_at (k := 0) ht
      refine wp_region_any hm ?_
      obtain ⟨E, rfl, hal, hG⟩ := hg
      have hz : ∀ j, (Array.replicate ops.size false).getD j false = false := by
        intro j
        simp only [Array.getD_eq_getD_getElem?, Array.getElem?_replicate]
        split <;> rfl
      refine draw_sound (zs := ops.toList.zip xs) (s0 := s) (s' := s') hR h1 (fun i o x hi => ?_) ?_ k1 k2 (by rw [h2]; exact k3) hdd (fun a' w' hg' => hQ.normal s' a' w' hk hg') ops.size (Array.replicate ops.size false) a { E with w := { E.w with drawn := E.w.drawn + 1 } } (by simp) (by simp)
        (fun j o _ hL => by simp only [hz] at hL; cases hL) ?_ (fun id hid => .inl (hal id hid))
      · have := h3 i o x hi
        rwa [stL_congr (L := fun q => decide (q < 0 + i)) (L' := fun q => decide (q < i)) (fun j _ => by simp)] at this
      · rw [← h4]
        exact stL_congr fun j _ => by simp
      · rw [stL_none fun j _ => hz j]
        exact frm_drew hG _ rfl
  | seq x y ihx ihy =>
    intro Q Qm s a w hd hQ h hg
    have hd : dstsOk n x = true ∧ dstsOk n y = true := by simpa [dstsOk] using hd
    exact wp_seq (ihx (Ex.then (awp P R y Q) Q) _ s a w hd.1 ⟨fun s a w h hg => ihy Q Qm s a w hd.2 hQ h hg, fun i s a w h hg => hQ.exit i s a w h hg, fun s a w h hg => hQ.ret s a w h hg⟩ h hg)
  | cond c x y ihx ihy =>
    intro Q Qm s a w hd hQ h hg
    have hd : dstsOk n x = true ∧ dstsOk n y = true := by simpa [dstsOk] using hd
    simp only [awp, optK] at h
    split at h
    · rename_i t ht
      have hc : a.eval c = .bool t := by
        obtain ⟨E, _, _, _, _, _, hT, _⟩ := hg
        unfold condVal at ht
        split at ht
        · rename_i t' hc
          obtain rfl := Option.some.inj ht
          exact (opr_sound hT hc).sc_inv
        · exact absurd ht (by simp)
      unfold Br at h
      split at h
      · rename_i e; subst e; exact wp_cond_true hc (ihx Q Qm s a w hd.1 hQ h hg)
      · rename_i e
        obtain rfl : t = false := by simpa using e
        exact wp_cond_false hc (ihy Q Qm s a w hd.2 hQ h hg)
    · exact h.elim
  | block id x ihx =>
    intro Q Qm s a w hd hQ h hg
    refine wp_block (ihx (Ex.inBlock id Q) _ s a w (by simpa [dstsOk] using hd) ⟨fun s a w h hg => hQ.normal s a w h hg, fun i s a w h hg => ?_, fun s a w h hg => hQ.ret s a w h hg⟩ h hg)
    simp only [Ex.inBlock, Br, beq_iff_eq] at h
    simp only [Exit.inBlock]
    split
    · rename_i e; rw [if_pos e] at h; exact hQ.normal s a w h hg
    · rename_i e; rw [if_neg e] at h; exact hQ.exit i s a w h hg
  | loop x ihx =>
    intro Q Qm s a w hd hQ h hg b k cs
    have hd : dstsOk n x = true := by simpa [dstsOk] using hd
    obtain ⟨e, a', w', q, r⟩ := (show ∀ I : AS → Prop, (∀ s s', Weak s s' → awp P R x (Ex.then I Q) s' → I s) → I s from h)
      (fun s => ∀ a w, Good n w0 okb s a w → ∀ (b : Frame) (k : List Item) (cs : List Frame), ∃ e a' w', Qm e a' w' ∧ Arrives P (lone (b.at a (.code x :: .inLoop x :: k)) cs w) b k cs e a' w')
      (fun s s' hW hb a w hg b k cs => by
        have := ihx (Ex.then (fun s => ∀ a w, Good n w0 okb s a w → ∀ (b : Frame) (k : List Item) (cs : List Frame), ∃ e a' w', Qm e a' w' ∧ Arrives P (lone (b.at a (.code x :: .inLoop x :: k)) cs w) b k cs e a' w') Q) (fun e a w => match e with
          | .normal => ∀ (b : Frame) (k : List Item) (cs : List Frame), ∃ e a' w', Qm e a' w' ∧ Arrives P (lone (b.at a (.code x :: .inLoop x :: k)) cs w) b k cs e a' w'
          | e => Qm e a w) s' a w hd ⟨fun s a w h hg => h a w hg, fun i s a w h hg => hQ.exit i s a w h hg, fun s a w h hg => hQ.ret s a w h hg⟩ hb (hW n w0 okb a w hg)
        obtain ⟨e, a₁, w₁, hq, harr⟩ := this b (.inLoop x :: k) cs
        cases e with
        | normal =>
          obtain ⟨e₂, a₂, w₂, hq₂, harr₂⟩ := hq b k cs
          exact ⟨e₂, a₂, w₂, hq₂, .of_steps (Steps.trans harr (.one step_inLoop)) harr₂⟩
        | exit id => exact ⟨_, a₁, w₁, hq, .pass (x := .inLoop x) rfl (fun _ _ => .inl (by simp)) harr⟩
        | goto l => exact ⟨_, a₁, w₁, hq, .pass (x := .inLoop x) rfl (fun _ _ => .inl (by simp)) harr⟩
        | ret => exact ⟨_, a₁, w₁, hq, .pass (x := .inLoop x) rfl (fun _ _ => .inl (by simp)) harr⟩
        | panic ch => exact ⟨_, a₁, w₁, hq, .pass (x := .inLoop x) rfl (fun _ _ => .inl (by simp)) harr⟩
        | outgrown => exact ⟨_, a₁, w₁, hq, .pass (x := .inLoop x) rfl (fun _ _ => .inl (by simp)) harr⟩) a w hg b k cs
    exact ⟨e, a', w', q, .of_steps (.one step_loop) r⟩
  | _ => exact fun Q Qm s a w _ _ h _ => (show False from h).elim
end Go.Ab
