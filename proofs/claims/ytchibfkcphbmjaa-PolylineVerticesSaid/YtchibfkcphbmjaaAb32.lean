/- The abstract interpreter: how a call is taken. -/
import Derived.Test.YtchibfkcphbmjaaAb31
set_option linter.unusedVariables false
set_option linter.unusedSimpArgs false
set_option linter.unusedSectionVars false

namespace Go.Ab

mutual
/-- What the caller has, and what the callee is told. -/
def argP (mem : List (Nat × Arr)) : Nat → AV → AV → Prop
  | 0, a, a' => a = a' ∧ owns a = false
  | n + 1, a, a' => match a, a' with
    | .own id off len, .sl sz xs => (match get mem id with
      | some (.row sz' ys) => (len = 0 ∧ xs = []) ∨ (sz = sz' ∧ off + len ≤ ys.length ∧ xs = (ys.drop off).take len)
      | some (.frz sz' ys) => sz = sz' ∧ off + len ≤ ys.length ∧ xs = (ys.drop off).take len
      | _ => False)
    | .nil, .sl _ xs => xs = []
    | .ptr id i j, .ref cs' => (match get mem id with
      | some (.box cs) => i = 0 ∧ argsP mem n (cs.drop j) cs'
      | _ => False)
    | .fn f x y, .fn f' x' y' => f = f' ∧ argsP mem n x x' ∧ argsP mem n y y'
    | .agg x, .agg x' => argsP mem n x x'
    | a, a' => a = a' ∧ owns a = false
def argsP (mem : List (Nat × Arr)) : Nat → List AV → List AV → Prop
  | _, [], [] => True
  | n, a :: r, a' :: r' => argP mem n a a' ∧ argsP mem n r r'
  | _, _, _ => False
end

theorem argsP_get {mem : List (Nat × Arr)} {n : Nat} : ∀ {as as' : List AV}, argsP mem n as as' → as'.length = as.length ∧ ∀ (j : Nat) (a a' : AV), as[j]? = some a → as'[j]? = some a' → argP mem n a a'
  | [], [], _ => ⟨rfl, by simp⟩
  | a :: r, a' :: r', h => by
    have h : argP mem n a a' ∧ argsP mem n r r' := by simpa only [argsP] using h
    obtain ⟨h1, h2⟩ := argsP_get h.2
    refine ⟨by simp [h1], fun j x y hx hy => ?_⟩
    cases j with
    | zero => simp at hx hy; subst hx hy; exact h.1
    | succ j => exact h2 j x y (by simpa using hx) (by simpa using hy)
  | [], _ :: _, h => by simp [argsP] at h
  | _ :: _, [], h => by simp [argsP] at h

theorem argP_to {mem : List (Nat × Arr)} : ∀ {n : Nat} {a a' : AV}, argP mem n a a' → ArgTo mem a a' := by
  intro n
  induction n with
  | zero =>
    intro a a' h
    have h2 : a = a' ∧ owns a = false := by simpa only [argP] using h
    obtain ⟨rfl, h3⟩ := h2
    exact .same h3
  | succ n ih =>
    intro a a' h
    unfold argP at h
    split at h
    · split at h
      · rename_i hg
        rcases h with ⟨rfl, rfl⟩ | ⟨rfl, h1, rfl⟩
        · exact .empty hg
        · exact .row hg h1
      · rename_i hg
        obtain ⟨rfl, h1, rfl⟩ := h
        exact .frz hg h1
      · exact h.elim
    · subst h; exact .nil _
    · split at h
      · rename_i hg
        obtain ⟨rfl, h⟩ := h
        obtain ⟨h1, h2⟩ := argsP_get h
        exact .box hg h1 fun q c c' hc hc' => ih (h2 q c c' hc hc')
      · exact h.elim
    · obtain ⟨rfl, h1, h2⟩ := h
      obtain ⟨g1, g2⟩ := argsP_get h1
      obtain ⟨g3, g4⟩ := argsP_get h2
      exact .fn g1 g3 (fun q c c' hc hc' => ih (g2 q c c' hc hc')) (fun q c c' hc hc' => ih (g4 q c c' hc hc'))
    · obtain ⟨h1, h2⟩ := argsP_get h
      exact .agg h1 fun q c c' hc hc' => ih (h2 q c c' hc hc')
    · obtain ⟨rfl, h⟩ := h
      exact .same h

theorem argsP_to {mem : List (Nat × Arr)} {n : Nat} : ∀ {as as' : List AV}, argsP mem n as as' → ArgsTo mem as as'
  | [], [], _ => trivial
  | a :: r, a' :: r', h => by
    have h : argP mem n a a' ∧ argsP mem n r r' := by simpa only [argsP] using h
    exact ⟨argP_to h.1, argsP_to h.2⟩
  | [], _ :: _, h => by simp [argsP] at h
  | _ :: _, [], h => by simp [argsP] at h

/-- How the caller goes on. -/
def callK (s : AS) (as : List AV) (r : AV) (K : Res → Prop) : Prop :=
  match noref r, frzOf s.mem as with
  | true, _ => K ⟨r, [], s.nx, if as.any owns then s.mem.map (·.1) else []⟩
  | false, some z => K ⟨(imp s.nx r).1, (imp s.nx r).2.1 ++ z, (imp s.nx r).2.2, if as.any owns then s.mem.map (·.1) else []⟩
  | false, none => False

theorem acall_of {R : CallRel} {s : AS} {g : FuncId} {as as' : List AV} {r : AV} {K : Res → Prop} (hR : R g as' r) (hto : argsP s.mem 4 as as') (hk : callK s as r K) : acall R s g as K :=
  ⟨as', r, argsP_to hto, hR, hk⟩

/-- An argument that is handed on as it is. -/
def sameB : AV → Bool
  | .agg cs => cs.all fun c => !owns c
  | a => !owns a
theorem sameB_to {mem : List (Nat × Arr)} {a : AV} (h : sameB a = true) : ArgTo mem a a := by
  cases a with
  | agg cs =>
    refine .agg rfl fun q c c' hc hc' => ?_
    obtain rfl : c = c' := Option.some.inj (hc.symm.trans hc')
    have := (List.all_eq_true.1 h) c (List.mem_of_getElem? hc)
    exact .same (by simpa using this)
  | _ => exact .same (by simpa [sameB] using h)
theorem sames_to {mem : List (Nat × Arr)} : ∀ {as : List AV}, as.all sameB = true → ArgsTo mem as as
  | [], _ => trivial
  | a :: r, h => by
    simp only [List.all_cons, Bool.and_eq_true] at h
    exact ⟨sameB_to h.1, sames_to h.2⟩
theorem acall_same {R : CallRel} {s : AS} {g : FuncId} {as : List AV} {r : AV} {K : Res → Prop} (hR : R g as r) (ho : as.all sameB = true) (hk : callK s as r K) : acall R s g as K :=
  ⟨as, r, sames_to ho, hR, hk⟩

@[congr] theorem callK_congr {s s' : AS} {as as' : List AV} {r r' : AV} {K : Res → Prop} (h1 : s = s') (h2 : as = as') (h3 : r = r') : callK s as r K = callK s' as' r' K := by rw [h1, h2, h3]
theorem callK_pure {s : AS} {as : List AV} {r : AV} {K : Res → Prop} (h : noref r = true) : callK s as r K = K ⟨r, [], s.nx, if as.any owns then s.mem.map (·.1) else []⟩ := by
  unfold callK; rw [h]
theorem callK_perm {s : AS} {as : List AV} {r : AV} {K : Res → Prop} (h : noref r = false) : callK s as r K = match frzOf s.mem as with
    | some z => K ⟨(imp s.nx r).1, (imp s.nx r).2.1 ++ z, (imp s.nx r).2.2, if as.any owns then s.mem.map (·.1) else []⟩
    | none => False := by
  unfold callK; rw [h]; cases frzOf s.mem as <;> rfl

theorem loop_ind {P : Program} {R : CallRel} {c : Code} {Q : Ex → AS → Prop} {s : AS} {α : Type} (p : α → Prop) (μ : α → Nat) (I : α → AS) (x0 : α) (h0 : p x0) (hw : Weak s (I x0))
    (step : ∀ x, p x → awp P R c (Ex.then (fun s' => ∃ y, p y ∧ μ y < μ x ∧ Weak s' (I y)) Q) (I x)) : awp P R (.loop c) Q s := by
  refine loop_weak (I x0) hw ?_
  have key : ∀ n x, μ x = n → p x → awp P R (.loop c) Q (I x) := by
    intro n
    induction n using Nat.strongRecOn with
    | _ n ih =>
      intro x hx hp
      refine awp_loop (I x) (Weak.refl _) (awp_mono (fun _ _ _ h => h) c _ _ _ (then_mono (fun s' h => ?_) (fun _ _ h => h)) (step x hp))
      obtain ⟨y, h1, h2, h3⟩ := h
      exact loop_weak (I y) h3 (ih (μ y) (hx ▸ h2) y rfl h1)
  exact key _ x0 rfl h0
end Go.Ab
