/- The square root of floats, as the program calls it; what is told ahead of it. -/
import Derived.Test.YtmdeiagmlabfmaaGreatDoorAbF
import Derived.Test.YtmdeiagmlabfmaaGreatDoorAbX
import Derived.Test.YtmdeiagmlabfmaaGreatDoorAbW
import Derived.Test.YtmdeiagmlabfmaaGreatDoorZRev
import Derived.Test.YtmdeiagmlabfmaaGreatDoorProg
set_option linter.unusedVariables false
set_option linter.unusedSimpArgs false
set_option linter.unusedSectionVars false

namespace Go.Ab
open Go.Proofs Go.RowKit
set_option maxRecDepth 10000
set_option maxHeartbeats 4000000
theorem find75 : Extern.find Tryz.f75 = some Extern.MathSqrt.sqrt := by rfl
theorem findNext75 : Extern.findNext Tryz.f75 = none := by rfl
theorem sqrt_run (x b : Nat) (h : FloatKind.f64.format.sqrt x = some b) : Extern.MathSqrt.sqrt #[.float .f64 x] = pure (.float .f64 b) := by
  have e : Extern.MathSqrt.sqrt #[.float .f64 x] = (match FloatKind.f64.format.sqrt x with
    | some r => pure (.float .f64 r)
    | none => do pure (.float .f64 (← choose (.nanBits .f64 x x)))) := rfl
  rw [e, h]
theorem run75 (x b : Nat) (h : FloatKind.f64.format.sqrt x = some b) (w : World) : (callFunc 75 #[.float .f64 x]).run Tryz.prog w = .ok (.value (.float .f64 b)) w := by
  simp only [callFunc, Sem.run_bind, run_program, Result.andThen_ok, Tryz.func75]
  have e1 : (Tryz.f75.name == "runtime.NumGoroutine") = false := by kernel_rfl
  have e2 : Tryz.f75.body.isNone = true := by rfl
  simp [e1, e2, findNext75, find75, sqrt_run x b h]
def XSq : CallRel := fun f xs r => f = 73 ∧ ∃ x b, FloatKind.f64.format.sqrt x = some b ∧ xs = [.sc (.float .f64 x)] ∧ r = .sc (.float .f64 b)
theorem xsq_sound : RSound Tryz.prog XSq := by
  rintro f xs r ⟨rfl, x, b, hs, rfl, rfl⟩
  refine ⟨⟨Tryz.f73, _, Tryz.func73, rfl, by kernel_rfl⟩, fun w ok vs hok hvs => ?_, fun sz ys e => by cases e⟩
  obtain rfl : vs = [.float .f64 x] := by
    match vs, hvs with
    | [v], hvs =>
      have := hvs.2 0 _ v rfl rfl
      cases this; rfl
    | [], hvs => have := hvs.1; simp at this
    | _ :: _ :: _, hvs => have := hvs.1; simp at this
  refine calls_of_wp Tryz.func73 rfl ?_
  refine wp_seq (wp_region ?_)
  simp only [wpOps, Region.wanted, Oper.wp, Oper.upon, execOp, Act.eval, Act.put, Tryz.f73, List.size_toArray, List.length_cons, List.length_nil, List.range, List.range.loop, List.getElem?_toArray, List.getElem?_cons_zero, Sem.run_pure, if_true]
  refine .inl ?_
  simp only [Exit.then]
  refine wp_seq (wp_region ?_)
  have hrun : (Array.map (fun x => x) #[Value.float FloatKind.f64 x]) = #[Value.float FloatKind.f64 x] := by simp
  simp [wpOps, Region.wanted, Oper.wp, Oper.upon, execOp, Act.eval, Act.put, List.range, List.range.loop, resolve, Deferred.ofValue, invoke, run75 x b hs]
  simp only [Exit.then]
  refine .inl (.inl (.inl ?_))
  refine wp_ret ?_
  refine ⟨rfl, .float .f64 b, ?_, .float .f64 b, rfl, .refl _ _, [], [.sc (.float .f64 b)], [.float .f64 b], by simp, .cons (x := []) (y := []) (.pure (.sc _)) .nil, rfl, rfl⟩
  simp [results]
def XR : CallRel := fun f xs r => f = 44 ∧ ∃ ys, xs = [.fr 2 ys] ∧ r = .fr 2 ys.reverse
theorem xr_sound : RSound Tryz.prog XR := by
  rintro f xs r ⟨rfl, ys, rfl, rfl⟩
  refine ⟨⟨Tryz.f44, _, Tryz.func44, rfl, by kernel_rfl⟩, fun w ok vs hok hvs => ?_, fun sz zs e => ?_⟩
  · match vs, hvs with
    | [v], hvs =>
      have := hvs.2 0 _ v rfl rfl
      cases this
    | [], hvs => have := hvs.1; simp at this
    | _ :: _ :: _, hvs => have := hvs.1; simp at this
  · obtain ⟨rfl, rfl⟩ : 2 = sz ∧ ys = zs := by simpa using e
    exact ⟨rfl, fun b o n cap c t w h0 hn hcap hb hsz hone => rev44 b o n cap c t w h0 hn hcap hb hsz hone⟩
def XS : CallRel := fun f xs r => XSq f xs r ∨ XR f xs r
theorem xs_sound : RSound Tryz.prog XS := fun f xs r h => h.elim (xsq_sound f xs r) (xr_sound f xs r)
def extS : CallFn := fun f xs => match Nat.beq f 73, Nat.beq f 44, xs with
  | true, _, [.sc (.float .f64 x)] => (FloatKind.f64.format.sqrt x).map fun b => .sc (.float .f64 b)
  | _, true, [.fr 2 ys] => some (.fr 2 ys.reverse)
  | _, _, _ => none
theorem extS_sound : ∀ f xs r, extS f xs = some r → XS f xs r := by
  intro f xs r h
  unfold extS at h
  split at h
  · rename_i hf
    obtain rfl : f = 73 := Nat.eq_of_beq_eq_true hf
    rename_i x
    cases hs : FloatKind.f64.format.sqrt x with
    | none => rw [hs] at h; cases h
    | some b => rw [hs] at h; obtain rfl := Option.some.inj h; exact .inl ⟨rfl, x, b, hs, rfl, rfl⟩
  · rename_i hf
    obtain rfl : f = 44 := Nat.eq_of_beq_eq_true hf
    rename_i ys _
    obtain rfl := Option.some.inj h
    exact .inr ⟨rfl, _, rfl, rfl⟩
  · cases h
/-- The bytes of a name: the set that strings.Trim makes of them. -/
def inSet (i : Nat) : Bool := (Nat.ble 97 i && Nat.ble i 122) || (Nat.ble 48 i && Nat.ble i 57) || Nat.beq i 95
def setT : List AV := (List.range 256).map fun i => .sc (.bool (inSet i))
theorem pOk : progOk Tryz.prog = true := by kernel_rfl
end Go.Ab
