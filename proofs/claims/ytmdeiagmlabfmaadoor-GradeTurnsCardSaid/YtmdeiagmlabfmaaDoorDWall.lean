/- A part of the proof. Conditions: those of each theorem. -/
import Derived.Test.YtmdeiagmlabfmaaDoorDTy
import Derived.Test.YtmdeiagmlabfmaaDoorDX
import Derived.Test.YtmdeiagmlabfmaaDoorDWp1
import Derived.Test.YtmdeiagmlabfmaaDoorDWp2
import Derived.Test.YtmdeiagmlabfmaaDoorDWp4
import Derived.Test.YtmdeiagmlabfmaaDoorDWp5
import Derived.Test.YtmdeiagmlabfmaaDoorDWp6
import Derived.Test.YtmdeiagmlabfmaaDoorDWp7
import Derived.Test.YtmdeiagmlabfmaaDoorDWp8
set_option linter.unusedVariables false
set_option linter.unusedSimpArgs false
set_option linter.unusedSectionVars false

section
namespace Go.Ab
open Go.Proofs
set_option maxRecDepth 100000
set_option linter.unusedVariables false
attribute [local irreducible] todoQ
-- strings.trimRightASCII
def strings_trimRightASCII_S0 (s0 : ByteArray) (s0' : ByteArray) : AS := ⟨[(0, str s0'), (1, .ref setT)], [], 0⟩
abbrev strings_trimRightASCII_V (s0 : ByteArray) (r0 : ByteArray) (I0 : ByteArray → Prop) (M0 : ByteArray → Nat) : Prop := I0 s0
abbrev strings_trimRightASCII_V0 (s0 : ByteArray) (r0 : ByteArray) (I0 : ByteArray → Prop) (M0 : ByteArray → Nat) (s0' : ByteArray) : Prop := ((((s0'.size : Nat) : Int) > 0 → (InR (((s0'.size : Nat) : Int) - 1)) ∧ (Idx (((s0'.size : Nat) : Int) - 1) s0'.size) ∧ (∃ (contains1 : Bool), Ret Tryd.prog XS 89 [.ref setT, .sc (.int .u8 (bt s0' (((s0'.size : Nat) : Int) - 1)))] (boo contains1) ∧ ((contains1 = true → (Slc 0 (((s0'.size : Nat) : Int) - 1) s0'.size) ∧ I0 (s0'.extract (((0 : Nat) : Int) : Int).toNat ((((s0'.size : Nat) : Int) - 1) : Int).toNat) ∧ M0 (s0'.extract (((0 : Nat) : Int) : Int).toNat ((((s0'.size : Nat) : Int) - 1) : Int).toNat) < M0 s0') ∧ (contains1 = false → r0 = s0')))) ∧ (¬ (((s0'.size : Nat) : Int) > 0) → r0 = s0'))
theorem strings_trimRightASCII_W0 (s0 : ByteArray) (r0 : ByteArray) (I0 : ByteArray → Prop) (M0 : ByteArray → Nat) (h0 : ∀ (s0' : ByteArray), I0 s0' → strings_trimRightASCII_V0 s0 r0 I0 M0 s0') : ∀ (x : ByteArray), I0 x → loopQ Tryd.prog XS Tryd.f77 0 (str r0) [] (strings_trimRightASCII_S0 s0 x) := by
  intro x0 hx0
  refine loop_rule (fun (x : ByteArray) => I0 x) (fun (x : ByteArray) => M0 x) (fun (x : ByteArray) => strings_trimRightASCII_S0 s0 x) x0 hx0 ?_
  intro s0' hx
  have h := h0 s0' hx
  clear hx hx0 x0
  have g_1 := (olens Tryd.prog 9 s0' (by kernel_rfl))
  by_cases c1 : ((s0'.size : Nat) : Int) > 0
  · have h := h.1 c1
    obtain ⟨c2, c3, contains1, c4, h⟩ := h
    have g_2 := (osub Tryd.prog 3 (wi64 c2))
    have e_3 := (ac (abt (dec_t c1)) (ac g_1 (ac g_2 (ac (obtt c3) (ocs c4)))))
    rcases Bool.eq_false_or_eq_true contains1 with c5 | c5
    · have h := h.1 c5
      obtain ⟨c6, h⟩ := h
      exact sb (ts := [0, 1]) (ids := []) (d := 0) (s0 := ⟨[(0, str (s0'.extract (((0 : Nat) : Int) : Int).toNat ((((s0'.size : Nat) : Int) - 1) : Int).toNat)), (1, .ref setT)], [], 0⟩) (ac g_1 (ac e_3 (ac (abf (not_f c5)) (ac g_1 (ac g_2 (At.mk (allc (ob_scut c6) alln) : At [.val (str (s0'.extract (((0 : Nat) : Int) : Int).toNat ((((s0'.size : Nat) : Int) - 1) : Int).toNat))] [(0 : Int) ≤ ((0 : Nat) : Int) ∧ ((0 : Nat) : Int) ≤ (((s0'.size : Nat) : Int) - 1) ∧ (((s0'.size : Nat) : Int) - 1) ≤ ((s0'.size : Nat) : Int) ∧ (s0'.extract (((0 : Nat) : Int) : Int).toNat ((((s0'.size : Nat) : Int) - 1) : Int).toNat) = (s0'.extract (((0 : Nat) : Int) : Int).toNat ((((s0'.size : Nat) : Int) - 1) : Int).toNat)])))))) (by kernel_rfl) (by kernel_rfl) rfl (s0'.extract (((0 : Nat) : Int) : Int).toNat ((((s0'.size : Nat) : Int) - 1) : Int).toNat) h.1 h.2 (Weak.anew [] (by rfl) (wt_cons rfl wk_sc (wt_cons rfl wk_ref wt_nil)) wm_nil)
    · have h := h.2 c5
      rw [h]
      exact sr (ids := []) (vs := [str s0']) (mem := []) (ac g_1 (ac e_3 (abt (not_t c5)))) (by kernel_rfl) (by kernel_rfl) (rts_sc rfl)
  · have h := h.2 c1
    rw [h]
    exact sr (ids := []) (vs := [str s0']) (mem := []) (ac g_1 (abf (dec_f c1))) (by kernel_rfl) (by kernel_rfl) (rts_sc rfl)
theorem strings_trimRightASCII_W (s0 : ByteArray) (r0 : ByteArray) (I0 : ByteArray → Prop) (M0 : ByteArray → Nat) (h : strings_trimRightASCII_V s0 r0 I0 M0) (h0 : ∀ (s0' : ByteArray), I0 s0' → strings_trimRightASCII_V0 s0 r0 I0 M0 s0') : Ret Tryd.prog XS 77 [str s0, .ref setT] (str r0) := by
  refine fn_rule Tryd.func77 (by kernel_rfl) (by kernel_rfl) (by kernel_rfl) (by kernel_rfl) ?_
  exact sl (ts := [0, 1]) (ids := []) (d := 0) (s0 := ⟨[(0, str s0), (1, .ref setT)], [], 0⟩) az (by kernel_rfl) (by kernel_rfl) (Weak.anew [] (by rfl) (wt_cons rfl wk_sc (wt_cons rfl wk_ref wt_nil)) wm_nil) (strings_trimRightASCII_W0 s0 r0 I0 M0 h0 s0 h)
end Go.Ab
end
