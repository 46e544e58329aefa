/- The square root of floats, as the program calls it; what is told ahead of it. -/
import Derived.Test.YtchibfkcphbmjaaAbF
import Derived.Test.YtchibfkcphbmjaaAbX
import Derived.Test.YtchibfkcphbmjaaProg
set_option linter.unusedVariables false
set_option linter.unusedSimpArgs false
set_option linter.unusedSectionVars false

namespace Go.Ab
open Go.Proofs Go.RowKit
set_option maxRecDepth 10000
set_option maxHeartbeats 4000000
theorem find40 : Extern.find Try.f40 = some Extern.MathSqrt.sqrt := by rfl
theorem findNext40 : Extern.findNext Try.f40 = none := by rfl
theorem sqrt_run (x b : Nat) (h : FloatKind.f64.format.sqrt x = some b) : Extern.MathSqrt.sqrt #[.float .f64 x] = pure (.float .f64 b) := by
  have e : Extern.MathSqrt.sqrt #[.float .f64 x] = (match FloatKind.f64.format.sqrt x with
    | some r => pure (.float .f64 r)
    | none => do pure (.float .f64 (← choose (.nanBits .f64 x x)))) := rfl
  rw [e, h]
theorem run40 (x b : Nat) (h : FloatKind.f64.format.sqrt x = some b) (w : World) : (callFunc 40 #[.float .f64 x]).run Try.prog w = .ok (.value (.float .f64 b)) w := by
  simp only [callFunc, Sem.run_bind, run_program, Result.andThen_ok, Try.func40]
  have e1 : (Try.f40.name == "runtime.NumGoroutine") = false := by kernel_rfl
  have e2 : Try.f40.body.isNone = true := by rfl
  simp [e1, e2, findNext40, find40, sqrt_run x b h]
def XS : CallRel := fun f xs r => f = 39 ∧ ∃ x b, FloatKind.f64.format.sqrt x = some b ∧ xs = [.sc (.float .f64 x)] ∧ r = .sc (.float .f64 b)
theorem xs_sound : RSound Try.prog XS := by
  rintro f xs r ⟨rfl, x, b, hs, rfl, rfl⟩
  refine ⟨⟨Try.f39, _, Try.func39, rfl, by kernel_rfl⟩, fun w ok vs hok hvs => ?_⟩
  obtain rfl : vs = [.float .f64 x] := by
    match vs, hvs with
    | [v], hvs =>
      have := hvs.2 0 _ v rfl rfl
      cases this; rfl
    | [], hvs => have := hvs.1; simp at this
    | _ :: _ :: _, hvs => have := hvs.1; simp at this
  refine calls_of_wp Try.func39 rfl ?_
  refine wp_seq (wp_region ?_)
  simp only [wpOps, Region.wanted, Oper.wp, Oper.upon, execOp, Act.eval, Act.put, Try.f39, List.size_toArray, List.length_cons, List.length_nil, List.range, List.range.loop, List.getElem?_toArray, List.getElem?_cons_zero, Sem.run_pure, if_true]
  refine .inl ?_
  simp only [Exit.then]
  refine wp_seq (wp_region ?_)
  have hrun : (Array.map (fun x => x) #[Value.float FloatKind.f64 x]) = #[Value.float FloatKind.f64 x] := by simp
  simp [wpOps, Region.wanted, Oper.wp, Oper.upon, execOp, Act.eval, Act.put, List.range, List.range.loop, resolve, Deferred.ofValue, invoke, run40 x b hs]
  simp only [Exit.then]
  refine .inl (.inl (.inl ?_))
  refine wp_ret ?_
  refine ⟨rfl, .float .f64 b, ?_, .float .f64 b, rfl, .refl _ _, [], [.sc (.float .f64 b)], [.float .f64 b], by simp, .cons (x := []) (y := []) (.pure (.sc _)) .nil, rfl, rfl⟩
  simp [results]
def extS : CallFn := fun f xs => match Nat.beq f 39, xs with
  | true, [.sc (.float .f64 x)] => (FloatKind.f64.format.sqrt x).map fun b => .sc (.float .f64 b)
  | _, _ => none
theorem extS_sound : ∀ f xs r, extS f xs = some r → XS f xs r := by
  intro f xs r h
  unfold extS at h
  split at h
  · rename_i hf
    obtain rfl : f = 39 := Nat.eq_of_beq_eq_true hf
    rename_i x
    cases hs : FloatKind.f64.format.sqrt x with
    | none => rw [hs] at h; cases h
    | some b => rw [hs] at h; obtain rfl := Option.some.inj h; exact ⟨rfl, x, b, hs, rfl, rfl⟩
  · cases h
theorem pOk : progOk Try.prog = true := by kernel_rfl
end Go.Ab
