/- The abstract interpreter: a state may be said anew, with other numbers and less in it. -/
import Derived.Test.YtjbodjmkfklleaaDoorAb30
set_option linter.unusedVariables false
set_option linter.unusedSimpArgs false
set_option linter.unusedSectionVars false

section
namespace Go.Ab
open Go.RowKit (Below)

mutual
/-- The old value, said anew: σ tells for each new number the old one, or none for an empty row that is nil. -/
def Wk (σ : List (Nat × Option Nat)) (s : AS) : AV → AV → Prop
  | _, .jk => True
  | .own j o l, .own i o' l' => get σ i = some (some j) ∧ o = o' ∧ l = l'
  | .nil, .own i o l => get σ i = some none ∧ o = 0 ∧ l = 0
  | .nil, .sl _ xs => xs = []
  | .own j o l, .sl sz xs => ∃ xs0, get s.mem j = some (.frz sz xs0) ∧ o + l ≤ xs0.length ∧ xs = (xs0.drop o).take l
  | .ptr j a b, .ptr i a' b' => get σ i = some (some j) ∧ a = a' ∧ b = b'
  | .agg cs, .agg cs' => WkL σ s cs cs'
  | .tup cs, .tup cs' => WkL σ s cs cs'
  | .fn f x y, .fn f' x' y' => f = f' ∧ WkL σ s x x' ∧ WkL σ s y y'
  | a, b => a = b ∧ owns a = false
def WkL (σ : List (Nat × Option Nat)) (s : AS) : List AV → List AV → Prop
  | [], [] => True
  | a :: r, a' :: r' => Wk σ s a a' ∧ WkL σ s r r'
  | _, _ => False
end

def wkTm (σ : List (Nat × Option Nat)) (s : AS) : List (Nat × AV) → Prop
  | [] => True
  | (t, v) :: r => (match get s.tm t with | some u => Wk σ s u v | none => False) ∧ wkTm σ s r

def wkArr (σ : List (Nat × Option Nat)) (s : AS) : Arr → Arr → Prop
  | .row sz xs, .row sz' xs' => sz = sz' ∧ xs = xs'
  | .frz sz xs, .frz sz' xs' => sz = sz' ∧ xs = xs'
  | .box cs, .box cs' => WkL σ s cs cs'
  | _, _ => False
def wkMem (σ : List (Nat × Option Nat)) (s : AS) : List (Nat × Arr) → Prop
  | [] => True
  | (i, arr) :: r => (match get σ i with
      | some (some j) => (match get s.mem j with | some a => wkArr σ s a arr | none => False)
      | some none => (match arr with | .row _ xs => xs = [] | _ => False)
      | none => False) ∧ wkMem σ s r

/-- New numbers are new, and no two of them are one old number. -/
def wkNum (nx : Nat) : List (Nat × Option Nat) → Bool
  | [] => true
  | (i, j) :: r => decide (i < nx) && (match j with | some j => r.all fun x => x.2 != some j | none => true) && wkNum nx r

def Env.anew (E : Env) (σ : List (Nat × Option Nat)) : Env where
  w := E.w
  ok := E.ok
  loc i := match get σ i with
    | some (some j) => E.loc j
    | _ => none
  al i := (get σ i).isSome = true

theorem wkNum_lt {nx : Nat} : ∀ {σ : List (Nat × Option Nat)}, wkNum nx σ = true → ∀ i x, get σ i = some x → i < nx
  | [], _, _, _, h => by cases h
  | (k, j) :: r, hn, i, x, h => by
    simp only [wkNum, Bool.and_eq_true, decide_eq_true_eq] at hn
    rw [get_cons] at h
    split at h
    · rename_i e; subst e; exact hn.1.1
    · exact wkNum_lt hn.2 i x h
theorem get_mem {α : Type} {m : List (Nat × α)} {i : Nat} {a : α} (h : get m i = some a) : (i, a) ∈ m := by
  induction m with
  | nil => cases h
  | cons p m ih =>
    obtain ⟨u, v⟩ := p
    rw [get_cons] at h
    split at h
    · rename_i e
      obtain rfl := Option.some.inj h
      subst e; exact List.mem_cons_self
    · exact List.mem_cons_of_mem _ (ih h)
theorem wkNum_inj {nx : Nat} : ∀ {σ : List (Nat × Option Nat)}, wkNum nx σ = true → ∀ i i' j, get σ i = some (some j) → get σ i' = some (some j) → i = i'
  | [], _, _, _, _, h, _ => by cases h
  | (k, q) :: r, hn, i, i', j, h, h' => by
    simp only [wkNum, Bool.and_eq_true] at hn
    have key : ∀ x, q = some j → get r x = some (some j) → False := by
      intro x hq hg
      subst hq
      have := (List.all_eq_true.1 hn.1.2) _ (get_mem hg)
      simp at this
    rw [get_cons] at h h'
    split at h
    · rename_i e
      split at h'
      · rename_i e'; rw [← e, ← e']
      · exact (key i' (Option.some.inj h) h').elim
    · split at h'
      · exact (key i (Option.some.inj h') h).elim
      · exact wkNum_inj hn.2 i i' j h h'

theorem wkL_reps {σ : List (Nat × Option Nat)} {s : AS} {E : Env} : ∀ {cs cs' : List AV}, (∀ c, c ∈ cs → ∀ c' x, Wk σ s c c' → Rep E c x → Rep (E.anew σ) c' x) → WkL σ s cs cs' → ∀ {cv : List Value}, Reps E cs cv → Reps (E.anew σ) cs' cv
  | [], [], _, _, cv, hr => by
    obtain rfl : cv = [] := by simpa using hr.1
    exact ⟨rfl, by simp⟩
  | a :: r, a' :: r', hs, h, cv, hr => by
    have h : Wk σ s a a' ∧ WkL σ s r r' := by simpa only [WkL] using h
    match cv, hr with
    | [], hr => exact absurd hr.1 (by simp)
    | v :: cv', hr =>
      have ih := wkL_reps (fun c hc => hs c (List.mem_cons_of_mem _ hc)) h.2 (cv := cv') ⟨by simpa using hr.1, fun j c u hj hu => hr.2 (j + 1) c u (by simpa using hj) (by simpa using hu)⟩
      refine ⟨by simp [ih.1], fun j c u hj hu => ?_⟩
      cases j with
      | zero => simp at hj hu; subst hj hu; exact hs a List.mem_cons_self _ _ h.1 (hr.2 0 a v rfl rfl)
      | succ j => exact ih.2 j c u (by simpa using hj) (by simpa using hu)
  | [], _ :: _, _, h, _, _ => by simp [WkL] at h
  | _ :: _, [], _, h, _, _ => by simp [WkL] at h

theorem wk_rep {σ : List (Nat × Option Nat)} {s : AS} {E : Env} {base : Nat} (hM : MemRel E base s.mem) : ∀ (n : Nat) (a b : AV) (x : Value), SizeOf.sizeOf a < n → Wk σ s a b → Rep E a x → Rep (E.anew σ) b x := by
  intro n
  induction n with
  | zero => intro a b x h; omega
  | succ n ih =>
    intro a b x hn h hr
    have same : ∀ (a : AV) (x : Value), owns a = false → Rep E a x → Rep (E.anew σ) a x := fun a x ho hr => .pure (rep_pure (E := E) ho hr)
    by_cases hj : b = .jk
    · subst hj; exact .pure (.jk x)
    · unfold Wk at h
      split at h
      · exact .pure (.jk x)
      · obtain ⟨h1, rfl, rfl⟩ := h
        rename_i j o l i
        obtain ⟨_, ⟨hl, rfl, rfl, rfl⟩ | ⟨b, oo, z, cap, hl, rfl, hc, hs⟩⟩ := hr.own_inv
        · exact .ownNil i (by simp [Env.anew, h1]) (by simpa [Env.anew, h1] using hl)
        · exact .own i o l b oo z cap (by simp [Env.anew, h1]) (by simpa [Env.anew, h1] using hl) hc hs
      · obtain ⟨h1, rfl, rfl⟩ := h
        obtain rfl := hr.nil_inv
        exact .ownNil _ (by simp [Env.anew, h1]) (by simp [Env.anew, h1])
      · subst h
        obtain rfl := hr.nil_inv
        exact .pure (.slNil _)
      · obtain ⟨xs0, h1, h2, rfl⟩ := h
        exact .pure (frz_rep hM h1 hr h2)
      · obtain ⟨h1, rfl, rfl⟩ := h
        obtain ⟨ha, b, o, z, hl, rfl⟩ := hr.ptr_inv
        exact .ptr _ _ _ b o z (by simp [Env.anew, h1]) (by simpa [Env.anew, h1] using hl)
      · rename_i cs cs' _
        obtain ⟨cv, rfl, g1, g2⟩ := hr.agg_inv
        have := wkL_reps (fun c hc c' x hw hr => ih c c' x (by have := List.sizeOf_lt_of_mem hc; simp at hn; omega) hw hr) h g2
        exact .agg _ cv this.1 g1 this.2
      · rename_i cs cs' _
        obtain ⟨cv, rfl, g2⟩ := hr.tup_inv
        have := wkL_reps (fun c hc c' x hw hr => ih c c' x (by have := List.sizeOf_lt_of_mem hc; simp at hn; omega) hw hr) h g2
        exact .tup _ cv this.1 this.2
      · obtain ⟨rfl, h1, h2⟩ := h
        obtain ⟨fv, cv, rfl, g1, g2⟩ := hr.fn_inv
        have q1 := wkL_reps (fun c hc c' x hw hr => ih c c' x (by have := List.sizeOf_lt_of_mem hc; simp at hn; omega) hw hr) h1 g1
        have q2 := wkL_reps (fun c hc c' x hw hr => ih c c' x (by have := List.sizeOf_lt_of_mem hc; simp at hn; omega) hw hr) h2 g2
        exact .fn _ _ _ fv cv q1.1 q2.1 q1.2 q2.2
      · obtain ⟨rfl, ho⟩ := h
        exact same _ _ ho hr

theorem wkTm_get {σ : List (Nat × Option Nat)} {s : AS} : ∀ {tm : List (Nat × AV)}, wkTm σ s tm → ∀ t v, get tm t = some v → ∃ u, get s.tm t = some u ∧ Wk σ s u v
  | [], _, _, _, h => by cases h
  | (t0, v0) :: r, hw, t, v, h => by
    obtain ⟨h1, h2⟩ := hw
    rw [get_cons] at h
    split at h
    · rename_i e
      subst e
      obtain rfl := Option.some.inj h
      split at h1
      · rename_i u hu; exact ⟨u, hu, h1⟩
      · exact h1.elim
    · exact wkTm_get h2 t v h

theorem wkMem_get {σ : List (Nat × Option Nat)} {s : AS} : ∀ {m : List (Nat × Arr)}, wkMem σ s m → ∀ i arr, get m i = some arr → (∃ j a, get σ i = some (some j) ∧ get s.mem j = some a ∧ wkArr σ s a arr) ∨ (get σ i = some none ∧ ∃ sz, arr = .row sz [])
  | [], _, _, _, h => by cases h
  | (i0, a0) :: r, hw, i, arr, h => by
    obtain ⟨h1, h2⟩ := hw
    rw [get_cons] at h
    split at h
    · rename_i e
      subst e
      obtain rfl := Option.some.inj h
      split at h1
      · rename_i j hj
        split at h1
        · rename_i a ha; exact .inl ⟨j, a, hj, ha, h1⟩
        · exact h1.elim
      · rename_i hj
        split at h1
        · rename_i sz xs; subst h1; exact .inr ⟨hj, sz, rfl⟩
        · exact h1.elim
      · exact h1.elim
    · exact wkMem_get h2 i arr h

theorem Weak.anew {s s' : AS} (σ : List (Nat × Option Nat)) (hn : wkNum s'.nx σ = true) (ht : wkTm σ s s'.tm) (hm : wkMem σ s s'.mem) : Weak s s' := by
  rintro n w0 okb a w ⟨E, rfl, hal, hF, hD, hsz, hT, hM⟩
  refine ⟨E.anew σ, rfl, fun id h => ?_, ⟨hF.below, hF.okb, hF.lt⟩, hD, hsz, fun t v h => ?_, ?_⟩
  · simp only [Env.anew] at h
    obtain ⟨x, hx⟩ := Option.isSome_iff_exists.1 h
    exact wkNum_lt hn id x hx
  · obtain ⟨u, h1, h2⟩ := wkTm_get ht t v h
    obtain ⟨x, h3, h4⟩ := hT t u h1
    exact ⟨x, h3, wk_rep hM _ u v x (Nat.lt_succ_self _) h2 h4⟩
  · have loc_some : ∀ i j, get σ i = some (some j) → (E.anew σ).loc i = E.loc j := fun i j h => by simp [Env.anew, h]
    have loc_none : ∀ i, get σ i = some none → (E.anew σ).loc i = none := fun i h => by simp [Env.anew, h]
    refine ⟨fun i arr h => ?_, fun i i' arr arr' b o z o' z' hg hg' hmt hmt' hl hl' => ?_⟩
    · rcases wkMem_get hm i arr h with ⟨j, a0, h1, h2, h3⟩ | ⟨h1, sz, rfl⟩
      · refine ⟨by simp [Env.anew, h1], ?_⟩
        have hr := (hM.arr j a0 h2).2
        unfold wkArr at h3
        split at h3
        · obtain ⟨rfl, rfl⟩ := h3
          simp only [ArrRel, loc_some i j h1]; exact hr
        · obtain ⟨rfl, rfl⟩ := h3
          simp only [ArrRel, loc_some i j h1]; exact hr
        · rename_i cs cs'
          obtain ⟨b, c, t, q1, q2, q3, q4, q5, q6⟩ := hr
          have hreps : Reps E cs c.toList := ⟨by simpa using q5, fun j0 c0 v hc hv => by
            obtain ⟨x, g1, _, g3⟩ := q6 j0 c0 hc
            rw [Array.getElem?_toList, g1] at hv
            obtain rfl := Option.some.inj hv
            exact g3⟩
          have := wkL_reps (fun c _ c' x hw hr => wk_rep hM _ c c' x (Nat.lt_succ_self _) hw hr) h3 hreps
          refine ⟨b, c, t, by rw [loc_some i j h1]; exact q1, q2, q3, q4, by have := this.1; simpa using this, fun j0 a1 hj0 => ?_⟩
          have hlt : j0 < c.toList.length := by rw [this.1]; exact (List.getElem?_eq_some_iff.1 hj0).1
          obtain ⟨x, g1, g2, _⟩ := q6 j0 cs[j0] (List.getElem?_eq_getElem (by rw [← hreps.1]; exact hlt))
          exact ⟨x, g1, g2, this.2 j0 a1 x hj0 (by rw [Array.getElem?_toList]; exact g1)⟩
        · exact h3.elim
      · refine ⟨by simp [Env.anew, h1], ?_⟩
        simp only [ArrRel, loc_none i h1]
    · rcases wkMem_get hm i arr hg with ⟨j, a0, h1, h2, h3⟩ | ⟨h1, _⟩
      · rcases wkMem_get hm i' arr' hg' with ⟨j', a0', h1', h2', h3'⟩ | ⟨h1', _⟩
        · rw [loc_some i j h1] at hl
          rw [loc_some i' j' h1'] at hl'
          have m1 : a0.isMut = true := by
            unfold wkArr at h3
            split at h3
            · rfl
            · cases hmt
            · rfl
            · exact h3.elim
          have m2 : a0'.isMut = true := by
            unfold wkArr at h3'
            split at h3'
            · rfl
            · cases hmt'
            · rfl
            · exact h3'.elim
          have := hM.far j j' a0 a0' b o z o' z' h2 h2' m1 m2 hl hl'
          subst this
          exact wkNum_inj hn i i' j h1 h1'
        · rw [loc_none i' h1'] at hl'; cases hl'
      · rw [loc_none i h1] at hl; cases hl

theorem Weak.refl (s : AS) : Weak s s := fun _ _ _ _ _ h => h
theorem Weak.trans {a b c : AS} (h : Weak a b) (k : Weak b c) : Weak a c := fun n w0 okb a w hg => k n w0 okb a w (h n w0 okb a w hg)

theorem loop_unroll {P : Program} {R : CallRel} {c : Code} {Q : Ex → AS → Prop} {s : AS} (h : awp P R (.loop c) Q s) : ∃ s', Weak s s' ∧ awp P R c (Ex.then (awp P R (.loop c) Q) Q) s' := by
  refine (show ∀ I : AS → Prop, (∀ s s', Weak s s' → awp P R c (Ex.then I Q) s' → I s) → I s from h) (fun s => ∃ s', Weak s s' ∧ awp P R c (Ex.then (awp P R (.loop c) Q) Q) s') ?_
  intro s s' hw hb
  exact ⟨s', hw, awp_mono (fun _ _ _ h => h) c _ _ s' (then_mono (fun s1 ⟨s2, h1, h2⟩ => awp_loop s2 h1 h2) (fun _ _ h => h)) hb⟩
theorem loop_weak {P : Program} {R : CallRel} {c : Code} {Q : Ex → AS → Prop} {s : AS} (s' : AS) (hw : Weak s s') (h : awp P R (.loop c) Q s') : awp P R (.loop c) Q s := by
  obtain ⟨s'', h1, h2⟩ := loop_unroll h
  exact awp_loop s'' (hw.trans h1) h2
end Go.Ab
end

section
namespace Go.Ab

mutual
/-- What the caller has, and what the callee is told. -/
def argP (mem : List (Nat × Arr)) : Nat → AV → AV → Prop
  | 0, a, a' => a = a' ∧ owns a = false
  | n + 1, a, a' => match a, a' with
    | .own id off len, .sl sz xs => (match get mem id with
      | some (.row sz' ys) => (len = 0 ∧ xs = []) ∨ (sz = sz' ∧ off + len ≤ ys.length ∧ xs = (ys.drop off).take len)
      | some (.frz sz' ys) => sz = sz' ∧ off + len ≤ ys.length ∧ xs = (ys.drop off).take len
      | _ => False)
    | .nil, .sl _ xs => xs = []
    | .ptr id i j, .ref cs' => (match get mem id with
      | some (.box cs) => i = 0 ∧ argsP mem n (cs.drop j) cs'
      | _ => False)
    | .fn f x y, .fn f' x' y' => f = f' ∧ argsP mem n x x' ∧ argsP mem n y y'
    | .agg x, .agg x' => argsP mem n x x'
    | a, a' => a = a' ∧ owns a = false
def argsP (mem : List (Nat × Arr)) : Nat → List AV → List AV → Prop
  | _, [], [] => True
  | n, a :: r, a' :: r' => argP mem n a a' ∧ argsP mem n r r'
  | _, _, _ => False
end

/-- How the caller goes on. -/
def callK (s : AS) (as : List AV) (r : AV) (K : Res → Prop) : Prop :=
  match noref r, frzOf s.mem as with
  | true, _ => K ⟨r, [], s.nx, if as.any owns then s.mem.map (·.1) else []⟩
  | false, some z => K ⟨(imp s.nx r).1, (imp s.nx r).2.1 ++ z, (imp s.nx r).2.2, if as.any owns then s.mem.map (·.1) else []⟩
  | false, none => False

/-- An argument that is handed on as it is. -/
def sameB : AV → Bool
  | .agg cs => cs.all fun c => !owns c
  | a => !owns a
theorem sameB_to {mem : List (Nat × Arr)} {a : AV} (h : sameB a = true) : ArgTo mem a a := by
  cases a with
  | agg cs =>
    refine .agg rfl fun q c c' hc hc' => ?_
    obtain rfl : c = c' := Option.some.inj (hc.symm.trans hc')
    have := (List.all_eq_true.1 h) c (List.mem_of_getElem? hc)
    exact .same (by simpa using this)
  | _ => exact .same (by simpa [sameB] using h)
theorem sames_to {mem : List (Nat × Arr)} : ∀ {as : List AV}, as.all sameB = true → ArgsTo mem as as
  | [], _ => trivial
  | a :: r, h => by
    simp only [List.all_cons, Bool.and_eq_true] at h
    exact ⟨sameB_to h.1, sames_to h.2⟩
theorem acall_same {R : CallRel} {s : AS} {g : FuncId} {as : List AV} {r : AV} {K : Res → Prop} (hR : R g as r) (ho : as.all sameB = true) (hk : callK s as r K) : acall R s g as K :=
  .inl ⟨as, r, sames_to ho, hR, hk⟩

@[congr] theorem callK_congr {s s' : AS} {as as' : List AV} {r r' : AV} {K : Res → Prop} (h1 : s = s') (h2 : as = as') (h3 : r = r') : callK s as r K = callK s' as' r' K := by rw [h1, h2, h3]
theorem loop_ind {P : Program} {R : CallRel} {c : Code} {Q : Ex → AS → Prop} {s : AS} {α : Type} (p : α → Prop) (μ : α → Nat) (I : α → AS) (x0 : α) (h0 : p x0) (hw : Weak s (I x0))
    (step : ∀ x, p x → awp P R c (Ex.then (fun s' => ∃ y, p y ∧ μ y < μ x ∧ Weak s' (I y)) Q) (I x)) : awp P R (.loop c) Q s := by
  refine loop_weak (I x0) hw ?_
  have key : ∀ n x, μ x = n → p x → awp P R (.loop c) Q (I x) := by
    intro n
    induction n using Nat.strongRecOn with
    | _ n ih =>
      intro x hx hp
      refine awp_loop (I x) (Weak.refl _) (awp_mono (fun _ _ _ h => h) c _ _ _ (then_mono (fun s' h => ?_) (fun _ _ h => h)) (step x hp))
      obtain ⟨y, h1, h2, h3⟩ := h
      exact loop_weak (I y) h3 (ih (μ y) (hx ▸ h2) y rfl h1)
  exact key _ x0 rfl h0
end Go.Ab
end

section
namespace Go.Ab

def mapO (f : AV → Option AV) : List AV → Option (List AV)
  | [] => some []
  | a :: r => match f a, mapO f r with
    | some a', some r' => some (a' :: r')
    | _, _ => none
/-- An argument, as a callee gets it. -/
def toArg (mem : List (Nat × Arr)) : Nat → AV → Option AV
  | 0, a => if owns a then none else some a
  | n + 1, a => match a with
    | .own id off len => (match get mem id with
      | some (.row sz xs) => if off + len ≤ xs.length then some (.sl sz ((xs.drop off).take len)) else none
      | some (.frz sz xs) => if off + len ≤ xs.length then some (.sl sz ((xs.drop off).take len)) else none
      | _ => none)
    | .ptr id i j => (match get mem id with
      | some (.box cs) => if i = 0 then (mapO (toArg mem n) (cs.drop j)).map .ref else none
      | _ => none)
    | .fn f x y => (match mapO (toArg mem n) x, mapO (toArg mem n) y with
      | some x', some y' => some (.fn f x' y')
      | _, _ => none)
    | .agg x => (mapO (toArg mem n) x).map .agg
    | a => if owns a then none else some a
theorem mapO_get {f : AV → Option AV} : ∀ {x x' : List AV}, mapO f x = some x' → x'.length = x.length ∧ ∀ (q : Nat) (c c' : AV), x[q]? = some c → x'[q]? = some c' → f c = some c'
  | [], x', h => by
    obtain rfl : [] = x' := Option.some.inj h
    exact ⟨rfl, by simp⟩
  | a :: r, x', h => by
    unfold mapO at h
    split at h
    · rename_i a' r' h1 h2
      obtain rfl := Option.some.inj h
      obtain ⟨h3, h4⟩ := mapO_get h2
      refine ⟨by simp [h3], fun q c c' hq hq' => ?_⟩
      cases q with
      | zero => simp at hq hq'; subst hq hq'; exact h1
      | succ q => exact h4 q c c' (by simpa using hq) (by simpa using hq')
    · cases h
theorem toArg_to {mem : List (Nat × Arr)} : ∀ {n : Nat} {a a' : AV}, toArg mem n a = some a' → ArgTo mem a a' := by
  intro n
  induction n with
  | zero =>
    intro a a' h
    unfold toArg at h
    split at h
    · cases h
    · rename_i ho; obtain rfl := Option.some.inj h; exact .same (by simpa using ho)
  | succ n ih =>
    intro a a' h
    unfold toArg at h
    split at h
    · split at h
      · rename_i hg
        split at h
        · rename_i hl; obtain rfl := Option.some.inj h; exact .row hg hl
        · cases h
      · rename_i hg
        split at h
        · rename_i hl; obtain rfl := Option.some.inj h; exact .frz hg hl
        · cases h
      · cases h
    · split at h
      · rename_i hg
        split at h
        · rename_i hi
          subst hi
          cases hm : mapO (toArg mem n) (List.drop _ _) with
          | none => rw [hm] at h; cases h
          | some y =>
            rw [hm] at h
            obtain rfl := Option.some.inj h
            obtain ⟨h1, h2⟩ := mapO_get hm
            exact .box hg h1 fun q c c' hc hc' => ih (h2 q c c' hc hc')
        · cases h
      · cases h
    · split at h
      · rename_i h1 h2
        obtain rfl := Option.some.inj h
        obtain ⟨g1, g2⟩ := mapO_get h1
        obtain ⟨g3, g4⟩ := mapO_get h2
        exact .fn g1 g3 (fun q c c' hc hc' => ih (g2 q c c' hc hc')) (fun q c c' hc hc' => ih (g4 q c c' hc hc'))
      · cases h
    · rename_i x
      cases hm : mapO (toArg mem n) x with
      | none => rw [hm] at h; cases h
      | some y =>
        rw [hm] at h
        obtain rfl := Option.some.inj h
        obtain ⟨h1, h2⟩ := mapO_get hm
        exact .agg h1 fun q c c' hc hc' => ih (h2 q c c' hc hc')
    · split at h
      · cases h
      · rename_i ho; obtain rfl := Option.some.inj h; exact .same (by simpa using ho)

/-- An argument of a parameter of type t: nil is an empty slice. -/
def argIn (P : Program) (mem : List (Nat × Arr)) (t : Option TypeId) (a : AV) : Option AV :=
  match a with
  | .nil => match (t.bind (telem P)).bind (tsz P) with
    | some (_, n) => some (.sl n [])
    | none => some .nil
  | a => toArg mem 4 a
theorem argIn_to {P : Program} {mem : List (Nat × Arr)} {t : Option TypeId} {a a' : AV} (h : argIn P mem t a = some a') : ArgTo mem a a' := by
  unfold argIn at h
  split at h
  · split at h
    · obtain rfl := Option.some.inj h; exact .nil _
    · obtain rfl := Option.some.inj h; exact .same rfl
  · exact toArg_to h
def argsIn (P : Program) (mem : List (Nat × Arr)) : List TypeId → List AV → Option (List AV)
  | _, [] => some []
  | ts, a :: r => match argIn P mem ts.head? a, argsIn P mem ts.tail r with
    | some a', some r' => some (a' :: r')
    | _, _ => none
theorem argsIn_to {P : Program} {mem : List (Nat × Arr)} : ∀ {ts : List TypeId} {as as' : List AV}, argsIn P mem ts as = some as' → ArgsTo mem as as'
  | ts, [], as', h => by
    unfold argsIn at h
    obtain rfl := Option.some.inj h
    trivial
  | ts, a :: r, as', h => by
    unfold argsIn at h
    split at h
    · rename_i h1 h2
      obtain rfl := Option.some.inj h
      exact ⟨argIn_to h1, argsIn_to h2⟩
    · cases h

abbrev CallFn := FuncId → List AV → Option AV
/-- A call in place. -/
def exMut (call : CallFn) (s : AS) (g : FuncId) (as : List AV) : Option Res :=
  match as with
  | [.own id off len] => (match get s.mem id with
    | some (.row sz xs) => if off + len ≤ xs.length ∧ (0 < len ∧ len ≤ 9223372036854775807) then
        (match call g [.fr sz ((xs.drop off).take len)] with
        | some (.fr sz' ys) => if sz' = sz then some (mutRes s id off len sz xs ys) else none
        | _ => none)
      else none
    | _ => none)
  | _ => none
theorem exMut_sound {R : CallRel} {call : CallFn} (hcall : ∀ f as r, call f as = some r → R f as r) {s : AS} {g : FuncId} {as : List AV} {r : Res} {K : Res → Prop} (h : exMut call s g as = some r) (hK : K r) : amut R s g as K := by
  unfold exMut at h
  split at h
  · split at h
    · rename_i hg
      split at h
      · rename_i hc
        split at h
        · rename_i hr
          split at h
          · rename_i e
            subst e
            obtain rfl := Option.some.inj h
            exact ⟨_, _, _, _, _, _, rfl, hg, hc.1, hc.2, hcall _ _ _ hr, hK⟩
          · cases h
        · cases h
      · cases h
    · cases h
  · cases h
def exCall (P : Program) (call : CallFn) (s : AS) (g : FuncId) (as : List AV) : Option Res :=
  match exMut call s g as with
  | some r => some r
  | none => match argsIn P s.mem (match P.funcs[g]? with | some fn => fn.params.toList | none => []) as with
  | some as' => match call g as' with
    | some r => match noref r, frzOf s.mem as with
      | true, _ => some ⟨r, [], s.nx, if as.any owns then s.mem.map (·.1) else []⟩
      | false, some z => some ⟨(imp s.nx r).1, (imp s.nx r).2.1 ++ z, (imp s.nx r).2.2, if as.any owns then s.mem.map (·.1) else []⟩
      | false, none => none
    | none => none
  | none => none
def exOp (P : Program) (call : CallFn) (o : Oper) (s : AS) : Option Res :=
  match o.op with
  | .call ⟨.value f, args, ts⟩ => (match callee s ⟨.value f, args, ts⟩ with | some x => exCall P call s x.1 x.2 | none => none)
  | _ => ev P o s
def exOps (P : Program) (call : CallFn) (all : Array Oper) : List Oper → AS → Log → Option (AS × Log)
  | [], s, lg => some (s, lg)
  | o :: rest, s, lg => match o.guard with
    | none => (match exOp P call o s with
      | some r => exOps P call all rest (s.put o.dst r) ((r.rd, r.d.map (·.1)) :: lg)
      | none => none)
    | some (j, want) => match guardVal all s j with
      | some b => if (b == some want) = true then (match exOp P call o s with
          | some r => exOps P call all rest (s.put o.dst r) ((r.rd, r.d.map (·.1)) :: lg)
          | none => none)
        else exOps P call all rest (s.junk o.dst) (([], []) :: lg)
      | none => none
def drawOkB (ops : Array Oper) (lg : Log) : Bool := ordOk ops && tmpsOk ops && noConf (Region.before ops) lg

def dedup {α : Type} : List Nat → List (Nat × α) → List (Nat × α)
  | _, [] => []
  | seen, (u, v) :: r => if seen.contains u then dedup seen r else (u, v) :: dedup (u :: seen) r
theorem get_dedup {α : Type} : ∀ (l : List (Nat × α)) (seen : List Nat) (t : Nat), seen.contains t = false → get (dedup seen l) t = get l t
  | [], _, _, _ => rfl
  | (u, v) :: r, seen, t, h => by
    unfold dedup
    split
    · rename_i hu
      have hne : u ≠ t := fun e => by subst e; rw [h] at hu; cases hu
      rw [get_cons, if_neg hne]
      exact get_dedup r seen t h
    · rw [get_cons, get_cons]
      split
      · rfl
      · rename_i hne
        refine get_dedup r (u :: seen) t ?_
        simp only [List.contains_cons, h, Bool.or_false]
        simpa using fun e => hne e.symm
def tidy (s : AS) : AS := ⟨dedup [] s.tm, dedup [] s.mem, s.nx⟩
theorem tidy_weak (s : AS) : Weak s (tidy s) := by
  rintro n w0 okb a w ⟨E, rfl, hal, hG⟩
  exact ⟨E, rfl, hal, hG.same ⟨fun t => (get_dedup s.tm [] t rfl).symm, fun t => (get_dedup s.mem [] t rfl).symm⟩⟩

def exLoop (f : AS → Option (Ex × AS)) : Nat → AS → Option (Ex × AS)
  | 0, _ => none
  | n + 1, s => match f s with
    | some (.normal, s') => exLoop f n (tidy s')
    | some (.exit i, s') => some (.exit i, s')
    | some (.ret, s') => some (.ret, s')
    | none => none
def exC (P : Program) (call : CallFn) (k : Nat) : Code → AS → Option (Ex × AS)
  | .skip, s => some (.normal, s)
  | .region _ ops false, s => (match exOps P call ops ops.toList s [] with | some (s', _) => some (.normal, s') | none => none)
  | .region _ ops true, s => (match exOps P call ops ops.toList s [] with | some (s', lg) => if drawOkB ops lg = true then some (.normal, s') else none | none => none)
  | .seq x y, s => (match exC P call k x s with
    | some (.normal, s') => exC P call k y s'
    | some (.exit i, s') => some (.exit i, s')
    | some (.ret, s') => some (.ret, s')
    | none => none)
  | .cond c x y, s => (match condVal s c with
    | some true => exC P call k x s
    | some false => exC P call k y s
    | none => none)
  | .block id x, s => (match exC P call k x s with
    | some (.normal, s') => some (.normal, s')
    | some (.exit i, s') => if (i == id) = true then some (.normal, s') else some (.exit i, s')
    | some (.ret, s') => some (.ret, s')
    | none => none)
  | .loop x, s => exLoop (fun s => exC P call k x s) k s
  | .exit i, s => some (.exit i, s)
  | .ret, s => some (.ret, s)
  | _, _ => none

section
variable {P : Program} {R : CallRel} {call : CallFn} (hcall : ∀ f as r, call f as = some r → R f as r)
include hcall
theorem exCall_sound {s : AS} {g : FuncId} {as : List AV} {r : Res} {K : Res → Prop} (h : exCall P call s g as = some r) (hK : K r) : acall R s g as K := by
  unfold exCall at h
  split at h
  · rename_i hm
    obtain rfl := Option.some.inj h
    exact .inr (exMut_sound hcall hm hK)
  · split at h
    · rename_i as' h1
      split at h
      · rename_i v h2
        refine .inl ⟨as', v, argsIn_to h1, hcall _ _ _ h2, ?_⟩
        split at h
        · rename_i e; rw [e]; obtain rfl := Option.some.inj h; exact hK
        · rename_i e e'; rw [e, e']; obtain rfl := Option.some.inj h; exact hK
        · cases h
      · cases h
    · cases h
theorem exOp_sound {o : Oper} {s : AS} {r : Res} {K : Res → Prop} (h : exOp P call o s = some r) (hK : K r) : aop P R o s K := by
  unfold exOp at h
  unfold aop
  split at h
  · rename_i f args ts e
    rw [e]
    split at h
    · rename_i x hx
      show optK (callee s _) _
      rw [hx]
      exact exCall_sound hcall h hK
    · cases h
  · rename_i hn
    split
    · rename_i f args ts e; exact (hn f args ts e).elim
    · rw [h]; exact hK
theorem exOps_sound {all : Array Oper} {K : AS → Log → Prop} : ∀ {l : List Oper} {s : AS} {lg : Log} {s' : AS} {lg' : Log}, exOps P call all l s lg = some (s', lg') → K s' lg' → awops P R all l s lg K
  | [], s, lg, s', lg', h, hK => by
    unfold exOps at h
    obtain ⟨rfl, rfl⟩ := Prod.mk.inj (Option.some.inj h)
    exact hK
  | o :: rest, s, lg, s', lg', h, hK => by
    unfold exOps at h
    unfold awops
    split at h
    · rename_i e
      rw [e]
      split at h
      · rename_i r hr
        exact exOp_sound hcall hr (exOps_sound h hK)
      · cases h
    · rename_i j want e
      rw [e]
      split at h
      · rename_i b hb
        show optK (guardVal all s j) _
        rw [hb]
        show Br _ _ _
        unfold Br
        split at h
        · rename_i hw
          rw [if_pos hw]
          split at h
          · rename_i r hr
            exact exOp_sound hcall hr (exOps_sound h hK)
          · cases h
        · rename_i hw
          rw [if_neg hw]
          exact exOps_sound h hK
      · cases h
theorem exLoop_sound {c : Code} {Q : Ex → AS → Prop} {f : AS → Option (Ex × AS)} (hf : ∀ s e s' (Q : Ex → AS → Prop), f s = some (e, s') → Q e s' → awp P R c Q s) : ∀ {n : Nat} {s : AS} {e : Ex} {s' : AS}, exLoop f n s = some (e, s') → Q e s' → awp P R (.loop c) Q s
  | 0, s, e, s', h, _ => by unfold exLoop at h; cases h
  | n + 1, s, e, s', h, hQ => by
    unfold exLoop at h
    refine awp_loop s (Weak.refl _) ?_
    split at h
    · rename_i s1 h1
      exact hf _ _ _ _ h1 (show awp P R (.loop c) Q s1 from loop_weak _ (tidy_weak s1) (exLoop_sound hf h hQ))
    · rename_i i s1 h1
      obtain ⟨rfl, rfl⟩ := Prod.mk.inj (Option.some.inj h)
      exact hf _ _ _ _ h1 (show Q _ _ from hQ)
    · rename_i s1 h1
      obtain ⟨rfl, rfl⟩ := Prod.mk.inj (Option.some.inj h)
      exact hf _ _ _ _ h1 (show Q _ _ from hQ)
    · cases h
theorem exC_sound {k : Nat} : ∀ (c : Code) (s : AS) (e : Ex) (s' : AS) (Q : Ex → AS → Prop), exC P call k c s = some (e, s') → Q e s' → awp P R c Q s := by
  intro c
  induction c with
  | skip =>
    intro s e s' Q h hQ
    obtain ⟨rfl, rfl⟩ := Prod.mk.inj (Option.some.inj h)
    exact hQ
  | exit i =>
    intro s e s' Q h hQ
    obtain ⟨rfl, rfl⟩ := Prod.mk.inj (Option.some.inj h)
    exact hQ
  | ret =>
    intro s e s' Q h hQ
    obtain ⟨rfl, rfl⟩ := Prod.mk.inj (Option.some.inj h)
    exact hQ
  | region id ops dr =>
    intro s e s' Q h hQ
    cases dr with
    | false =>
      simp only [exC] at h
      split at h
      · rename_i s1 lg h1
        obtain ⟨rfl, rfl⟩ := Prod.mk.inj (Option.some.inj h)
        exact exOps_sound hcall h1 hQ
      · cases h
    | true =>
      simp only [exC] at h
      split at h
      · rename_i s1 lg h1
        split at h
        · rename_i hd
          obtain ⟨rfl, rfl⟩ := Prod.mk.inj (Option.some.inj h)
          simp only [drawOkB, Bool.and_eq_true] at hd
          exact exOps_sound hcall h1 ⟨⟨hd.1.1, hd.1.2, hd.2⟩, hQ⟩
        · cases h
      · cases h
  | seq x y ihx ihy =>
    intro s e s' Q h hQ
    simp only [exC] at h
    show awp P R x _ s
    split at h
    · rename_i s1 h1
      exact ihx _ _ _ _ h1 (show awp P R y Q s1 from ihy _ _ _ _ h hQ)
    · rename_i i s1 h1
      obtain ⟨rfl, rfl⟩ := Prod.mk.inj (Option.some.inj h)
      exact ihx _ _ _ _ h1 (show Q _ _ from hQ)
    · rename_i s1 h1
      obtain ⟨rfl, rfl⟩ := Prod.mk.inj (Option.some.inj h)
      exact ihx _ _ _ _ h1 (show Q _ _ from hQ)
    · cases h
  | cond c x y ihx ihy =>
    intro s e s' Q h hQ
    simp only [exC] at h
    show optK (condVal s c) _
    split at h
    · rename_i h1; rw [h1]; exact ihx _ _ _ _ h hQ
    · rename_i h1; rw [h1]; exact ihy _ _ _ _ h hQ
    · cases h
  | block id x ihx =>
    intro s e s' Q h hQ
    simp only [exC] at h
    show awp P R x _ s
    split at h
    · rename_i s1 h1
      obtain ⟨rfl, rfl⟩ := Prod.mk.inj (Option.some.inj h)
      exact ihx _ _ _ _ h1 (show Q _ _ from hQ)
    · rename_i i s1 h1
      refine ihx _ _ _ _ h1 (show Br _ _ _ from ?_)
      unfold Br
      split at h
      · rename_i hi; obtain ⟨rfl, rfl⟩ := Prod.mk.inj (Option.some.inj h); rw [if_pos hi]; exact hQ
      · rename_i hi; obtain ⟨rfl, rfl⟩ := Prod.mk.inj (Option.some.inj h); rw [if_neg hi]; exact hQ
    · rename_i s1 h1
      obtain ⟨rfl, rfl⟩ := Prod.mk.inj (Option.some.inj h)
      exact ihx _ _ _ _ h1 (show Q _ _ from hQ)
    · cases h
  | loop x ihx =>
    intro s e s' Q h hQ
    simp only [exC] at h
    exact exLoop_sound hcall (fun s e s' Q h hq => ihx s e s' Q h hq) h hQ
  | _ => intro s e s' Q h; simp only [exC] at h; cases h
end

/-- What is handed back. -/
def outC (mem : List (Nat × Arr)) (used : List Nat) (a : AV) : Option (AV × List Nat) :=
  match a with
  | .own id off len => (match get mem id with
    | some (.row sz ys) => if off + len ≤ ys.length ∧ used.contains id = false then some (.fr sz ((ys.drop off).take len), id :: used) else none
    | some (.frz sz ys) => if off + len ≤ ys.length then some (.sl sz ((ys.drop off).take len), used) else none
    | _ => none)
  | a => if owns a then none else some (a, used)
def outCs (mem : List (Nat × Arr)) : List AV → List Nat → Option (List AV × List Nat)
  | [], used => some ([], used)
  | a :: r, used => match outC mem used a with
    | some (a', u) => (match outCs mem r u with
      | some (r', u') => some (a' :: r', u')
      | none => none)
    | none => none
def outTs (mem : List (Nat × Arr)) : List AV → List Nat → Option (List AV × List Nat)
  | [], used => some ([], used)
  | a :: r, used => match (match a with
      | .agg cs => (match outCs mem cs used with | some (cs', u) => some (AV.agg cs', u) | none => none)
      | a => outC mem used a) with
    | some (a', u) => (match outTs mem r u with
      | some (r', u') => some (a' :: r', u')
      | none => none)
    | none => none
theorem outC_sound {mem : List (Nat × Arr)} {used u : List Nat} {a a' : AV} {K : List Nat → Prop} (h : outC mem used a = some (a', u)) (hK : K u) : retC mem a a' used K := by
  unfold outC at h
  split at h
  · rename_i id off len
    split at h
    · rename_i hg
      split at h
      · rename_i hc
        obtain ⟨rfl, rfl⟩ := Prod.mk.inj (Option.some.inj h)
        simp only [retC, hg]
        exact ⟨trivial, hc.1, trivial, hc.2, hK⟩
      · cases h
    · rename_i hg
      split at h
      · rename_i hc
        obtain ⟨rfl, rfl⟩ := Prod.mk.inj (Option.some.inj h)
        simp only [retC, hg]
        exact ⟨trivial, hc, trivial, hK⟩
      · cases h
    · cases h
  · split at h
    · cases h
    · rename_i ho
      obtain ⟨rfl, rfl⟩ := Prod.mk.inj (Option.some.inj h)
      have ho : owns a = false := by simpa using ho
      cases a <;> first | (cases ho; done) | exact ⟨rfl, rfl, hK⟩
theorem outCs_sound {mem : List (Nat × Arr)} {K : List Nat → Prop} : ∀ {as as' : List AV} {used u : List Nat}, outCs mem as used = some (as', u) → K u → retCs mem as as' used K
  | [], as', used, u, h, hK => by
    unfold outCs at h
    obtain ⟨rfl, rfl⟩ := Prod.mk.inj (Option.some.inj h)
    exact hK
  | a :: r, as', used, u, h, hK => by
    unfold outCs at h
    split at h
    · rename_i h1
      split at h
      · rename_i h2
        obtain ⟨rfl, rfl⟩ := Prod.mk.inj (Option.some.inj h)
        exact outC_sound h1 (outCs_sound h2 hK)
      · cases h
    · cases h
theorem outTs_sound {mem : List (Nat × Arr)} {K : List Nat → Prop} : ∀ {as as' : List AV} {used u : List Nat}, outTs mem as used = some (as', u) → K u → retTs mem as as' used K
  | [], as', used, u, h, hK => by
    unfold outTs at h
    obtain ⟨rfl, rfl⟩ := Prod.mk.inj (Option.some.inj h)
    exact hK
  | a :: r, as', used, u, h, hK => by
    unfold outTs at h
    split at h
    · rename_i h1
      split at h
      · rename_i h2
        obtain ⟨rfl, rfl⟩ := Prod.mk.inj (Option.some.inj h)
        split at h1
        · split at h1
          · rename_i h3
            obtain ⟨rfl, rfl⟩ := Prod.mk.inj (Option.some.inj h1)
            exact outCs_sound h3 (outTs_sound h2 hK)
          · cases h1
        · rename_i hna
          have := outC_sound (K := fun u => retTs mem r _ u K) h1 (outTs_sound h2 hK)
          cases a <;> first | exact this | exact (hna _ rfl).elim
      · cases h
    · cases h
def exRet (P : Program) (rv : Array ResultVar) (s : AS) : Option AV :=
  match resVars P s rv.toList with
  | some vs => (match outTs s.mem vs [] with
    | some (ws, _) => (match vs, ws with
      | [_], [w] => some w
      | [_], _ => none
      | _, ws => some (.tup ws))
    | none => none)
  | none => none
theorem exRet_sound {P : Program} {rv : Array ResultVar} {s : AS} {r : AV} {e : Ex} (he : ∀ i, e ≠ .exit i) (h : exRet P rv s = some r) : retPost P rv r e s := by
  unfold exRet at h
  split at h
  · rename_i vs h1
    split at h
    · rename_i ws u h2
      have key : optK (resVars P s rv.toList) fun vs => retTs s.mem vs (unpack vs r) [] fun _ => packs vs r = true := by
        rw [h1]
        show retTs s.mem vs (unpack vs r) [] _
        split at h
        · obtain rfl := Option.some.inj h
          exact outTs_sound h2 rfl
        · cases h
        · rename_i hn hn'
          obtain rfl := Option.some.inj h
          have h3 : unpack vs (.tup ws) = ws := by
            rcases vs with _ | ⟨v, _ | ⟨v', r'⟩⟩
            · rfl
            · rcases ws with _ | ⟨w, _ | ⟨w', r'⟩⟩ <;> first | exact (hn' v _ rfl rfl).elim | exact (hn _ _ rfl rfl).elim | exact (hn' v rfl).elim | simp_all
            · rfl
          rw [h3]
          refine outTs_sound h2 ?_
          match vs with
          | [v] => rfl
          | [] => rfl
          | _ :: _ :: _ => rfl
      cases e with
      | exit i => exact (he i rfl).elim
      | normal => exact key
      | ret => exact key
    · cases h
  · cases h

def progOk (P : Program) : Bool := P.funcs.toList.all fun fn => match fn.body with
  | some c => !(fn.name == "runtime.NumGoroutine") && dstsOk fn.ntmps c
  | none => true
/-- A function, run: k bounds the calls' depth, n the rounds of a loop. -/
def exF (P : Program) (ext : CallFn) (n : Nat) : Nat → CallFn
  | 0, _, _ => none
  | k + 1, f, as => match ext f as with
    | some r => some r
    | none => match P.funcs[f]? with
      | some fn => (match fn.body with
        | some c => if (Nat.ble as.length fn.ntmps && !as.any isFr) = true then
            (match exC P (exF P ext n k) n c (init as) with
            | some (.exit _, _) => none
            | some (.normal, s) => exRet P fn.results s
            | some (.ret, s) => exRet P fn.results s
            | none => none)
          else none
        | none => none)
      | none => none
theorem exF_sound {P : Program} {X : CallRel} {ext : CallFn} (hX : ∀ f as r, ext f as = some r → X f as r) (hP : progOk P = true) {n : Nat} : ∀ {k : Nat} {f : FuncId} {as : List AV} {r : AV}, exF P ext n k f as = some r → Ret P X f as r
  | 0, f, as, r, h => by unfold exF at h; cases h
  | k + 1, f, as, r, h => by
    unfold exF at h
    split at h
    · rename_i h1
      obtain rfl := Option.some.inj h
      exact Ret.ext (hX _ _ _ h1)
    · split at h
      · rename_i fn hf
        split at h
        · rename_i c hb
          have hm : fn ∈ P.funcs.toList := by
            obtain ⟨hlt, e⟩ := Array.getElem?_eq_some_iff.1 hf
            subst e
            exact Array.getElem_mem_toList hlt
          have hg := List.all_eq_true.1 hP fn hm
          simp only [hb, Bool.and_eq_true, Bool.not_eq_true'] at hg
          split at h
          · rename_i hl
            refine Ret.of_body hf hb hg.1 hl hg.2 ?_
            split at h
            · cases h
            · rename_i s he
              exact exC_sound (call := exF P ext n k) (fun f as r h => exF_sound hX hP h) c _ _ _ _ he (exRet_sound (e := .normal) (by intro i; simp) h)
            · rename_i s he
              exact exC_sound (call := exF P ext n k) (fun f as r h => exF_sound hX hP h) c _ _ _ _ he (exRet_sound (e := .ret) (by intro i; simp) h)
            · cases h
          · cases h
        · cases h
      · cases h
end Go.Ab
end
