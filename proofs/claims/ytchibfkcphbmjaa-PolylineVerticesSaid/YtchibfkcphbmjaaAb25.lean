/- The abstract interpreter: regions in text order. -/
import Derived.Test.YtchibfkcphbmjaaAb24
set_option linter.unusedVariables false
set_option linter.unusedSimpArgs false
set_option linter.unusedSectionVars false

namespace Go.Ab
open Go.RowKit (Below)

theorem tm_put {E E' : Env} {n : Nat} {tm : List (Nat × AV)} {a : Act} {dst : Option Tmp} {v : AV} {x : Value} (hle : E.Le E') (hT : TmRel E tm a) (hn : a.tmps.size = n) (hd : ∀ d, dst = some d → d < n) (hr : Rep E' v x) :
    TmRel E' (dst.elim tm fun d => (d, v) :: tm) (a.put dst x) ∧ (a.put dst x).tmps.size = n ∧ (a.put dst x).defers = a.defers := by
  cases dst with
  | none => exact ⟨fun t u ht => by obtain ⟨y, h1, h2⟩ := hT t u ht; exact ⟨y, h1, h2.mono hle⟩, hn, rfl⟩
  | some d =>
    refine ⟨fun t u ht => ?_, by simpa [Act.put] using hn, rfl⟩
    simp only [Option.elim, get_cons] at ht
    split at ht
    · rename_i e
      subst e
      obtain rfl := Option.some.inj ht
      exact ⟨x, by simp only [Act.put, Array.getElem?_setIfInBounds]; simp [show d < a.tmps.size by rw [hn]; exact hd d rfl], hr⟩
    · rename_i e
      obtain ⟨y, h1, h2⟩ := hT t u ht
      exact ⟨y, by simp only [Act.put, Array.getElem?_setIfInBounds]; rw [if_neg e]; exact h1, h2.mono hle⟩

theorem good_put {E E' : Env} {n : Nat} {w0 : World} {okb : Nat → Prop} {s : AS} {a : Act} {dst : Option Tmp} {r : Res} {x : Value} (hG : GoodE E n w0 okb s a) (hS : Stepped E w0 okb s.mem s.nx r x E') (hd : ∀ d, dst = some d → d < n) :
    GoodE E' n w0 okb (s.put dst r) (a.put dst x) := by
  obtain ⟨hF, hD, hn, hT, hM⟩ := hG
  obtain ⟨h1, h2, h3⟩ := tm_put hS.le hT hn hd hS.rep
  cases dst <;> exact ⟨hS.frm, h3.trans hD, h2, h1, hS.mem⟩

theorem good_junk {E : Env} {n : Nat} {w0 : World} {okb : Nat → Prop} {s : AS} {a : Act} {dst : Option Tmp} (hG : GoodE E n w0 okb s a) (hd : ∀ d, dst = some d → d < n) :
    GoodE E n w0 okb (s.junk dst) (a.put dst undef) := by
  obtain ⟨hF, hD, hn, hT, hM⟩ := hG
  obtain ⟨h1, h2, h3⟩ := tm_put (.refl E) hT hn hd (.pure (.sc undef))
  cases dst <;> exact ⟨hF, h3.trans hD, h2, h1, hM⟩

theorem yielded_sound {E : Env} {ops : Array Oper} {s : AS} {a : Act} {j : Nat} {b : Option Bool} (hT : TmRel E s.tm a) (h : guardVal ops s j = some b) : yielded ops a.tmps j = b := by
  unfold guardVal at h
  unfold yielded
  split at h
  · rename_i d hd
    rw [hd]
    split at h
    · rename_i c hg
      obtain rfl := Option.some.inj h
      obtain ⟨x, h1, h2⟩ := hT d _ hg
      obtain rfl := h2.sc_inv
      simp [h1]
    · rename_i c hg
      obtain rfl := Option.some.inj h
      obtain ⟨x, h1, h2⟩ := hT d _ hg
      obtain rfl := h2.sc_inv
      simp [h1]
    · exact absurd h (by simp)
  · exact absurd h (by simp)

theorem stepC_sound {P : Program} {R : CallRel} (hR : RSound P R) {ops : Array Oper} {E : Env} {n : Nat} {w0 : World} {okb : Nat → Prop} {s : AS} {o : Oper} {i : Nat} {a : Act} {x : Option Res} (hi : ops[i]? = some o) (hG : GoodE E n w0 okb s a)
    (hc : StepC P R ops o s x) (hid : ∀ id, s.nx ≤ id → id < nxOf s x → ¬ E.al id) (hd : ∀ d, o.dst = some d → d < n) {K : Act → World → Prop} {Q : Exit → Act → World → Prop}
    (hK : ∀ E' a', GoodE E' n w0 okb (stp o x s) a' → (∀ id, E'.al id ↔ E.al id ∨ (s.nx ≤ id ∧ id < nxOf s x)) → K a' E'.w) : wpOp P ops Q i K a E.w := by
  obtain ⟨hF, hD, hn, hT, hM⟩ := id hG
  unfold wpOp
  rw [hi]
  simp only
  unfold StepC at hc
  split at hc
  · rename_i r hg
    rw [if_pos (by simp [Region.wanted, hg])]
    exact .inl (op_sound hR hF hM hT hc hid fun y E' hS => hK E' _ (good_put hG hS hd) hS.al)
  · rename_i j want r hg
    rw [if_pos (by simp [Region.wanted, hg, yielded_sound hT hc.1])]
    exact .inl (op_sound hR hF hM hT hc.2 hid fun y E' hS => hK E' _ (good_put hG hS hd) hS.al)
  · rename_i j want hg
    obtain ⟨b, hb, hne⟩ := hc
    rw [if_neg (by simp [Region.wanted, hg, yielded_sound hT hb]; simpa using hne)]
    exact hK E _ (good_junk hG hd) fun id => ⟨.inl, fun h => h.elim (fun h => h) (fun h => by simp only [nxOf] at h; omega)⟩
  · exact hc.elim

theorem stp_nx (o : Oper) (x : Option Res) (s : AS) : (stp o x s).nx = nxOf s x := by cases x <;> rfl

/-- A region in text order. -/
theorem text_sound {P : Program} {R : CallRel} (hR : RSound P R) {ops : Array Oper} {n : Nat} {w0 : World} {okb : Nat → Prop} {Q : Exit → Act → World → Prop} : ∀ {l : List Oper} {k : Nat} {s : AS} {xs : List (Option Res)} {s' : AS} {a : Act} {w : World},
    (∀ j o, l[j]? = some o → ops[k + j]? = some o) → (∀ o, o ∈ l → ∀ d, o.dst = some d → d < n) → Trace P R ops l s xs s' → Good n w0 okb s a w → (∀ a' w', Good n w0 okb s' a' w' → Q .normal a' w') →
    wpOps P ops Q (List.range' k l.length) a w
  | [], k, s, xs, s', a, w, _, _, ht, hg, hQ => by
    obtain ⟨_, rfl⟩ := ht
    exact hQ a w hg
  | o :: rest, k, s, xs, s', a, w, hl, hd, ht, hg, hQ => by
    obtain ⟨x, xs', rfl, hs, ht⟩ := ht
    obtain ⟨E, rfl, hal, hG⟩ := hg
    rw [List.length_cons, List.range'_succ, wpOps_cons]
    refine stepC_sound hR (hl 0 o rfl) hG hs (fun id h1 _ h => by have := hal id h; omega) (hd o List.mem_cons_self) fun E' a' hG' hal' => ?_
    refine text_sound hR (fun j o' h => ?_) (fun o' h => hd o' (List.mem_cons_of_mem _ h)) ht ⟨E', rfl, fun id h => ?_, hG'⟩ hQ
    · have := hl (j + 1) o' (by simpa using h)
      rw [← this]; congr 1; omega
    · rw [stp_nx]
      have := hs.nx
      rcases (hal' id).1 h with h | h
      · have := hal id h; omega
      · exact h.2
end Go.Ab
