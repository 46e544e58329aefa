/- The square root of floats, as the program calls it; what is told ahead of it. -/
import Derived.Test.YtjbodjmkfklleaaDoorAbF
import Derived.Test.YtjbodjmkfklleaaDoorAbX
import Derived.Test.YtjbodjmkfklleaaDoorAbW2
import Derived.Test.YtjbodjmkfklleaaDoorProg
set_option linter.unusedVariables false
set_option linter.unusedSimpArgs false
set_option linter.unusedSectionVars false

namespace Go.Ab
open Go.Proofs Go.RowKit
set_option maxRecDepth 10000
set_option maxHeartbeats 4000000
theorem find59 : Extern.find Tryd.f59 = some Extern.MathSqrt.sqrt := by rfl
theorem findNext59 : Extern.findNext Tryd.f59 = none := by rfl
theorem sqrt_run (x b : Nat) (h : FloatKind.f64.format.sqrt x = some b) : Extern.MathSqrt.sqrt #[.float .f64 x] = pure (.float .f64 b) := by
  have e : Extern.MathSqrt.sqrt #[.float .f64 x] = (match FloatKind.f64.format.sqrt x with
    | some r => pure (.float .f64 r)
    | none => do pure (.float .f64 (← choose (.nanBits .f64 x x)))) := rfl
  rw [e, h]
theorem run59 (x b : Nat) (h : FloatKind.f64.format.sqrt x = some b) (w : World) : (callFunc 59 #[.float .f64 x]).run Tryd.prog w = .ok (.value (.float .f64 b)) w := by
  simp only [callFunc, Sem.run_bind, run_program, Result.andThen_ok, Tryd.func59]
  have e1 : (Tryd.f59.name == "runtime.NumGoroutine") = false := by kernel_rfl
  have e2 : Tryd.f59.body.isNone = true := by rfl
  simp [e1, e2, findNext59, find59, sqrt_run x b h]
def XSq : CallRel := fun f xs r => f = 53 ∧ ∃ x b, FloatKind.f64.format.sqrt x = some b ∧ xs = [.sc (.float .f64 x)] ∧ r = .sc (.float .f64 b)
theorem xsq_sound : RSound Tryd.prog XSq := by
  rintro f xs r ⟨rfl, x, b, hs, rfl, rfl⟩
  refine ⟨⟨Tryd.f53, _, Tryd.func53, rfl, by kernel_rfl⟩, fun w ok vs hok hvs => ?_, fun sz ys e => by cases e⟩
  obtain rfl : vs = [.float .f64 x] := by
    match vs, hvs with
    | [v], hvs =>
      have := hvs.2 0 _ v rfl rfl
      cases this; rfl
    | [], hvs => have := hvs.1; simp at this
    | _ :: _ :: _, hvs => have := hvs.1; simp at this
  refine calls_of_wp Tryd.func53 rfl ?_
  refine wp_seq (wp_region ?_)
  simp only [wpOps, Region.wanted, Oper.wp, Oper.upon, execOp, Act.eval, Act.put, Tryd.f53, List.size_toArray, List.length_cons, List.length_nil, List.range, List.range.loop, List.getElem?_toArray, List.getElem?_cons_zero, Sem.run_pure, if_true]
  refine .inl ?_
  simp only [Exit.then]
  refine wp_seq (wp_region ?_)
  have hrun : (Array.map (fun x => x) #[Value.float FloatKind.f64 x]) = #[Value.float FloatKind.f64 x] := by simp
  simp [wpOps, Region.wanted, Oper.wp, Oper.upon, execOp, Act.eval, Act.put, List.range, List.range.loop, resolve, Deferred.ofValue, invoke, run59 x b hs]
  simp only [Exit.then]
  refine .inl (.inl (.inl ?_))
  refine wp_ret ?_
  refine ⟨rfl, .float .f64 b, ?_, .float .f64 b, rfl, .refl _ _, [], [.sc (.float .f64 b)], [.float .f64 b], by simp, .cons (x := []) (y := []) (.pure (.sc _)) .nil, rfl, rfl⟩
  simp [results]
def XS : CallRel := XSq
theorem xs_sound : RSound Tryd.prog XS := xsq_sound
def extS : CallFn := fun f xs => match Nat.beq f 53, xs with
  | true, [.sc (.float .f64 x)] => (FloatKind.f64.format.sqrt x).map fun b => .sc (.float .f64 b)
  | _, _ => none
theorem extS_sound : ∀ f xs r, extS f xs = some r → XS f xs r := by
  intro f xs r h
  unfold extS at h
  split at h
  · rename_i hf
    obtain rfl : f = 53 := Nat.eq_of_beq_eq_true hf
    rename_i x
    cases hs : FloatKind.f64.format.sqrt x with
    | none => rw [hs] at h; cases h
    | some b => rw [hs] at h; obtain rfl := Option.some.inj h; exact ⟨rfl, x, b, hs, rfl, rfl⟩
  · cases h
/-- The bytes of a name: the set that strings.Trim makes of them. -/
def inSet (i : Nat) : Bool := (Nat.ble 97 i && Nat.ble i 122) || (Nat.ble 48 i && Nat.ble i 57) || Nat.beq i 95
def setT : List AV := (List.range 256).map fun i => .sc (.bool (inSet i))
theorem pOk : progOk Tryd.prog = true := by kernel_rfl
end Go.Ab
