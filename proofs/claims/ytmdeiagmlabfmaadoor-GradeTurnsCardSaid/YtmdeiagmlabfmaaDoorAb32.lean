/- The abstract interpreter: a state may be said anew, with other numbers and less in it. -/
import Derived.Test.YtmdeiagmlabfmaaDoorAb30
set_option linter.unusedVariables false
set_option linter.unusedSimpArgs false
set_option linter.unusedSectionVars false

section
namespace Go.Ab
open Go.RowKit (Below)

mutual
/-- The old value, said anew: σ tells for each new number the old one, or none for an empty row that is nil. -/
def Wk (σ : List (Nat × Option Nat)) (s : AS) : AV → AV → Prop
  | _, .jk => True
  | .own j o l, .own i o' l' => get σ i = some (some j) ∧ o = o' ∧ l = l'
  | .nil, .own i o l => get σ i = some none ∧ o = 0 ∧ l = 0
  | .nil, .sl _ xs => xs = []
  | .own j o l, .sl sz xs => ∃ xs0, get s.mem j = some (.frz sz xs0) ∧ o + l ≤ xs0.length ∧ xs = (xs0.drop o).take l
  | .ptr j a b, .ptr i a' b' => get σ i = some (some j) ∧ a = a' ∧ b = b'
  | .agg cs, .agg cs' => WkL σ s cs cs'
  | .tup cs, .tup cs' => WkL σ s cs cs'
  | .fn f x y, .fn f' x' y' => f = f' ∧ WkL σ s x x' ∧ WkL σ s y y'
  | a, b => a = b ∧ owns a = false
def WkL (σ : List (Nat × Option Nat)) (s : AS) : List AV → List AV → Prop
  | [], [] => True
  | a :: r, a' :: r' => Wk σ s a a' ∧ WkL σ s r r'
  | _, _ => False
end

def wkTm (σ : List (Nat × Option Nat)) (s : AS) : List (Nat × AV) → Prop
  | [] => True
  | (t, v) :: r => (match get s.tm t with | some u => Wk σ s u v | none => False) ∧ wkTm σ s r

def wkArr (σ : List (Nat × Option Nat)) (s : AS) : Arr → Arr → Prop
  | .row sz xs, .row sz' xs' => sz = sz' ∧ xs = xs'
  | .frz sz xs, .frz sz' xs' => sz = sz' ∧ xs = xs'
  | .box cs, .box cs' => WkL σ s cs cs'
  | _, _ => False
def wkMem (σ : List (Nat × Option Nat)) (s : AS) : List (Nat × Arr) → Prop
  | [] => True
  | (i, arr) :: r => (match get σ i with
      | some (some j) => (match get s.mem j with | some a => wkArr σ s a arr | none => False)
      | some none => (match arr with | .row _ xs => xs = [] | _ => False)
      | none => False) ∧ wkMem σ s r

/-- New numbers are new, and no two of them are one old number. -/
def wkNum (nx : Nat) : List (Nat × Option Nat) → Bool
  | [] => true
  | (i, j) :: r => decide (i < nx) && (match j with | some j => r.all fun x => x.2 != some j | none => true) && wkNum nx r

def Env.anew (E : Env) (σ : List (Nat × Option Nat)) : Env where
  w := E.w
  ok := E.ok
  loc i := match get σ i with
    | some (some j) => E.loc j
    | _ => none
  al i := (get σ i).isSome = true

theorem wkNum_lt {nx : Nat} : ∀ {σ : List (Nat × Option Nat)}, wkNum nx σ = true → ∀ i x, get σ i = some x → i < nx
  | [], _, _, _, h => by cases h
  | (k, j) :: r, hn, i, x, h => by
    simp only [wkNum, Bool.and_eq_true, decide_eq_true_eq] at hn
    rw [get_cons] at h
    split at h
    · rename_i e; subst e; exact hn.1.1
    · exact wkNum_lt hn.2 i x h
theorem get_mem {α : Type} {m : List (Nat × α)} {i : Nat} {a : α} (h : get m i = some a) : (i, a) ∈ m := by
  induction m with
  | nil => cases h
  | cons p m ih =>
    obtain ⟨u, v⟩ := p
    rw [get_cons] at h
    split at h
    · rename_i e
      obtain rfl := Option.some.inj h
      subst e; exact List.mem_cons_self
    · exact List.mem_cons_of_mem _ (ih h)
theorem wkNum_inj {nx : Nat} : ∀ {σ : List (Nat × Option Nat)}, wkNum nx σ = true → ∀ i i' j, get σ i = some (some j) → get σ i' = some (some j) → i = i'
  | [], _, _, _, _, h, _ => by cases h
  | (k, q) :: r, hn, i, i', j, h, h' => by
    simp only [wkNum, Bool.and_eq_true] at hn
    have key : ∀ x, q = some j → get r x = some (some j) → False := by
      intro x hq hg
      subst hq
      have := (List.all_eq_true.1 hn.1.2) _ (get_mem hg)
      simp at this
    rw [get_cons] at h h'
    split at h
    · rename_i e
      split at h'
      · rename_i e'; rw [← e, ← e']
      · exact (key i' (Option.some.inj h) h').elim
    · split at h'
      · exact (key i (Option.some.inj h') h).elim
      · exact wkNum_inj hn.2 i i' j h h'

theorem wkL_reps {σ : List (Nat × Option Nat)} {s : AS} {E : Env} : ∀ {cs cs' : List AV}, (∀ c, c ∈ cs → ∀ c' x, Wk σ s c c' → Rep E c x → Rep (E.anew σ) c' x) → WkL σ s cs cs' → ∀ {cv : List Value}, Reps E cs cv → Reps (E.anew σ) cs' cv
  | [], [], _, _, cv, hr => by
    obtain rfl : cv = [] := by simpa using hr.1
    exact ⟨rfl, by simp⟩
  | a :: r, a' :: r', hs, h, cv, hr => by
    have h : Wk σ s a a' ∧ WkL σ s r r' := by simpa only [WkL] using h
    match cv, hr with
    | [], hr => exact absurd hr.1 (by simp)
    | v :: cv', hr =>
      have ih := wkL_reps (fun c hc => hs c (List.mem_cons_of_mem _ hc)) h.2 (cv := cv') ⟨by simpa using hr.1, fun j c u hj hu => hr.2 (j + 1) c u (by simpa using hj) (by simpa using hu)⟩
      refine ⟨by simp [ih.1], fun j c u hj hu => ?_⟩
      cases j with
      | zero => simp at hj hu; subst hj hu; exact hs a List.mem_cons_self _ _ h.1 (hr.2 0 a v rfl rfl)
      | succ j => exact ih.2 j c u (by simpa using hj) (by simpa using hu)
  | [], _ :: _, _, h, _, _ => by simp [WkL] at h
  | _ :: _, [], _, h, _, _ => by simp [WkL] at h

theorem wk_rep {σ : List (Nat × Option Nat)} {s : AS} {E : Env} {base : Nat} (hM : MemRel E base s.mem) : ∀ (n : Nat) (a b : AV) (x : Value), SizeOf.sizeOf a < n → Wk σ s a b → Rep E a x → Rep (E.anew σ) b x := by
  intro n
  induction n with
  | zero => intro a b x h; omega
  | succ n ih =>
    intro a b x hn h hr
    have same : ∀ (a : AV) (x : Value), owns a = false → Rep E a x → Rep (E.anew σ) a x := fun a x ho hr => .pure (rep_pure (E := E) ho hr)
    by_cases hj : b = .jk
    · subst hj; exact .pure (.jk x)
    · unfold Wk at h
      split at h
      · exact .pure (.jk x)
      · obtain ⟨h1, rfl, rfl⟩ := h
        rename_i j o l i
        obtain ⟨_, ⟨hl, rfl, rfl, rfl⟩ | ⟨b, oo, z, cap, hl, rfl, hc, hs⟩⟩ := hr.own_inv
        · exact .ownNil i (by simp [Env.anew, h1]) (by simpa [Env.anew, h1] using hl)
        · exact .own i o l b oo z cap (by simp [Env.anew, h1]) (by simpa [Env.anew, h1] using hl) hc hs
      · obtain ⟨h1, rfl, rfl⟩ := h
        obtain rfl := hr.nil_inv
        exact .ownNil _ (by simp [Env.anew, h1]) (by simp [Env.anew, h1])
      · subst h
        obtain rfl := hr.nil_inv
        exact .pure (.slNil _)
      · obtain ⟨xs0, h1, h2, rfl⟩ := h
        exact .pure (frz_rep hM h1 hr h2)
      · obtain ⟨h1, rfl, rfl⟩ := h
        obtain ⟨ha, b, o, z, hl, rfl⟩ := hr.ptr_inv
        exact .ptr _ _ _ b o z (by simp [Env.anew, h1]) (by simpa [Env.anew, h1] using hl)
      · rename_i cs cs' _
        obtain ⟨cv, rfl, g1, g2⟩ := hr.agg_inv
        have := wkL_reps (fun c hc c' x hw hr => ih c c' x (by have := List.sizeOf_lt_of_mem hc; simp at hn; omega) hw hr) h g2
        exact .agg _ cv this.1 g1 this.2
      · rename_i cs cs' _
        obtain ⟨cv, rfl, g2⟩ := hr.tup_inv
        have := wkL_reps (fun c hc c' x hw hr => ih c c' x (by have := List.sizeOf_lt_of_mem hc; simp at hn; omega) hw hr) h g2
        exact .tup _ cv this.1 this.2
      · obtain ⟨rfl, h1, h2⟩ := h
        obtain ⟨fv, cv, rfl, g1, g2⟩ := hr.fn_inv
        have q1 := wkL_reps (fun c hc c' x hw hr => ih c c' x (by have := List.sizeOf_lt_of_mem hc; simp at hn; omega) hw hr) h1 g1
        have q2 := wkL_reps (fun c hc c' x hw hr => ih c c' x (by have := List.sizeOf_lt_of_mem hc; simp at hn; omega) hw hr) h2 g2
        exact .fn _ _ _ fv cv q1.1 q2.1 q1.2 q2.2
      · obtain ⟨rfl, ho⟩ := h
        exact same _ _ ho hr

theorem wkTm_get {σ : List (Nat × Option Nat)} {s : AS} : ∀ {tm : List (Nat × AV)}, wkTm σ s tm → ∀ t v, get tm t = some v → ∃ u, get s.tm t = some u ∧ Wk σ s u v
  | [], _, _, _, h => by cases h
  | (t0, v0) :: r, hw, t, v, h => by
    obtain ⟨h1, h2⟩ := hw
    rw [get_cons] at h
    split at h
    · rename_i e
      subst e
      obtain rfl := Option.some.inj h
      split at h1
      · rename_i u hu; exact ⟨u, hu, h1⟩
      · exact h1.elim
    · exact wkTm_get h2 t v h

theorem wkMem_get {σ : List (Nat × Option Nat)} {s : AS} : ∀ {m : List (Nat × Arr)}, wkMem σ s m → ∀ i arr, get m i = some arr → (∃ j a, get σ i = some (some j) ∧ get s.mem j = some a ∧ wkArr σ s a arr) ∨ (get σ i = some none ∧ ∃ sz, arr = .row sz [])
  | [], _, _, _, h => by cases h
  | (i0, a0) :: r, hw, i, arr, h => by
    obtain ⟨h1, h2⟩ := hw
    rw [get_cons] at h
    split at h
    · rename_i e
      subst e
      obtain rfl := Option.some.inj h
      split at h1
      · rename_i j hj
        split at h1
        · rename_i a ha; exact .inl ⟨j, a, hj, ha, h1⟩
        · exact h1.elim
      · rename_i hj
        split at h1
        · rename_i sz xs; subst h1; exact .inr ⟨hj, sz, rfl⟩
        · exact h1.elim
      · exact h1.elim
    · exact wkMem_get h2 i arr h

theorem Weak.anew {s s' : AS} (σ : List (Nat × Option Nat)) (hn : wkNum s'.nx σ = true) (ht : wkTm σ s s'.tm) (hm : wkMem σ s s'.mem) : Weak s s' := by
  rintro n w0 okb a w ⟨E, rfl, hal, hF, hD, hsz, hT, hM⟩
  refine ⟨E.anew σ, rfl, fun id h => ?_, ⟨hF.below, hF.okb, hF.lt⟩, hD, hsz, fun t v h => ?_, ?_⟩
  · simp only [Env.anew] at h
    obtain ⟨x, hx⟩ := Option.isSome_iff_exists.1 h
    exact wkNum_lt hn id x hx
  · obtain ⟨u, h1, h2⟩ := wkTm_get ht t v h
    obtain ⟨x, h3, h4⟩ := hT t u h1
    exact ⟨x, h3, wk_rep hM _ u v x (Nat.lt_succ_self _) h2 h4⟩
  · have loc_some : ∀ i j, get σ i = some (some j) → (E.anew σ).loc i = E.loc j := fun i j h => by simp [Env.anew, h]
    have loc_none : ∀ i, get σ i = some none → (E.anew σ).loc i = none := fun i h => by simp [Env.anew, h]
    refine ⟨fun i arr h => ?_, fun i i' arr arr' b o z o' z' hg hg' hmt hmt' hl hl' => ?_⟩
    · rcases wkMem_get hm i arr h with ⟨j, a0, h1, h2, h3⟩ | ⟨h1, sz, rfl⟩
      · refine ⟨by simp [Env.anew, h1], ?_⟩
        have hr := (hM.arr j a0 h2).2
        unfold wkArr at h3
        split at h3
        · obtain ⟨rfl, rfl⟩ := h3
          simp only [ArrRel, loc_some i j h1]; exact hr
        · obtain ⟨rfl, rfl⟩ := h3
          simp only [ArrRel, loc_some i j h1]; exact hr
        · rename_i cs cs'
          obtain ⟨b, c, t, q1, q2, q3, q4, q5, q6⟩ := hr
          have hreps : Reps E cs c.toList := ⟨by simpa using q5, fun j0 c0 v hc hv => by
            obtain ⟨x, g1, _, g3⟩ := q6 j0 c0 hc
            rw [Array.getElem?_toList, g1] at hv
            obtain rfl := Option.some.inj hv
            exact g3⟩
          have := wkL_reps (fun c _ c' x hw hr => wk_rep hM _ c c' x (Nat.lt_succ_self _) hw hr) h3 hreps
          refine ⟨b, c, t, by rw [loc_some i j h1]; exact q1, q2, q3, q4, by have := this.1; simpa using this, fun j0 a1 hj0 => ?_⟩
          have hlt : j0 < c.toList.length := by rw [this.1]; exact (List.getElem?_eq_some_iff.1 hj0).1
          obtain ⟨x, g1, g2, _⟩ := q6 j0 cs[j0] (List.getElem?_eq_getElem (by rw [← hreps.1]; exact hlt))
          exact ⟨x, g1, g2, this.2 j0 a1 x hj0 (by rw [Array.getElem?_toList]; exact g1)⟩
        · exact h3.elim
      · refine ⟨by simp [Env.anew, h1], ?_⟩
        simp only [ArrRel, loc_none i h1]
    · rcases wkMem_get hm i arr hg with ⟨j, a0, h1, h2, h3⟩ | ⟨h1, _⟩
      · rcases wkMem_get hm i' arr' hg' with ⟨j', a0', h1', h2', h3'⟩ | ⟨h1', _⟩
        · rw [loc_some i j h1] at hl
          rw [loc_some i' j' h1'] at hl'
          have m1 : a0.isMut = true := by
            unfold wkArr at h3
            split at h3
            · rfl
            · cases hmt
            · rfl
            · exact h3.elim
          have m2 : a0'.isMut = true := by
            unfold wkArr at h3'
            split at h3'
            · rfl
            · cases hmt'
            · rfl
            · exact h3'.elim
          have := hM.far j j' a0 a0' b o z o' z' h2 h2' m1 m2 hl hl'
          subst this
          exact wkNum_inj hn i i' j h1 h1'
        · rw [loc_none i' h1'] at hl'; cases hl'
      · rw [loc_none i h1] at hl; cases hl

theorem Weak.refl (s : AS) : Weak s s := fun _ _ _ _ _ h => h
theorem Weak.trans {a b c : AS} (h : Weak a b) (k : Weak b c) : Weak a c := fun n w0 okb a w hg => k n w0 okb a w (h n w0 okb a w hg)

theorem loop_unroll {P : Program} {R : CallRel} {c : Code} {Q : Ex → AS → Prop} {s : AS} (h : awp P R (.loop c) Q s) : ∃ s', Weak s s' ∧ awp P R c (Ex.then (awp P R (.loop c) Q) Q) s' := by
  refine (show ∀ I : AS → Prop, (∀ s s', Weak s s' → awp P R c (Ex.then I Q) s' → I s) → I s from h) (fun s => ∃ s', Weak s s' ∧ awp P R c (Ex.then (awp P R (.loop c) Q) Q) s') ?_
  intro s s' hw hb
  exact ⟨s', hw, awp_mono (fun _ _ _ h => h) c _ _ s' (then_mono (fun s1 ⟨s2, h1, h2⟩ => awp_loop s2 h1 h2) (fun _ _ h => h)) hb⟩
theorem loop_weak {P : Program} {R : CallRel} {c : Code} {Q : Ex → AS → Prop} {s : AS} (s' : AS) (hw : Weak s s') (h : awp P R (.loop c) Q s') : awp P R (.loop c) Q s := by
  obtain ⟨s'', h1, h2⟩ := loop_unroll h
  exact awp_loop s'' (hw.trans h1) h2
end Go.Ab
end

section
namespace Go.Ab

mutual
/-- What the caller has, and what the callee is told. -/
def argP (mem : List (Nat × Arr)) : Nat → AV → AV → Prop
  | 0, a, a' => a = a' ∧ owns a = false
  | n + 1, a, a' => match a, a' with
    | .own id off len, .sl sz xs => (match get mem id with
      | some (.row sz' ys) => (len = 0 ∧ xs = []) ∨ (sz = sz' ∧ off + len ≤ ys.length ∧ xs = (ys.drop off).take len)
      | some (.frz sz' ys) => sz = sz' ∧ off + len ≤ ys.length ∧ xs = (ys.drop off).take len
      | _ => False)
    | .nil, .sl _ xs => xs = []
    | .ptr id i j, .ref cs' => (match get mem id with
      | some (.box cs) => i = 0 ∧ argsP mem n (cs.drop j) cs'
      | _ => False)
    | .fn f x y, .fn f' x' y' => f = f' ∧ argsP mem n x x' ∧ argsP mem n y y'
    | .agg x, .agg x' => argsP mem n x x'
    | a, a' => a = a' ∧ owns a = false
def argsP (mem : List (Nat × Arr)) : Nat → List AV → List AV → Prop
  | _, [], [] => True
  | n, a :: r, a' :: r' => argP mem n a a' ∧ argsP mem n r r'
  | _, _, _ => False
end

/-- How the caller goes on. -/
def callK (s : AS) (as : List AV) (r : AV) (K : Res → Prop) : Prop :=
  match noref r, frzOf s.mem as with
  | true, _ => K ⟨r, [], s.nx, if as.any owns then s.mem.map (·.1) else []⟩
  | false, some z => K ⟨(imp s.nx r).1, (imp s.nx r).2.1 ++ z, (imp s.nx r).2.2, if as.any owns then s.mem.map (·.1) else []⟩
  | false, none => False

/-- An argument that is handed on as it is. -/
def sameB : AV → Bool
  | .agg cs => cs.all fun c => !owns c
  | a => !owns a
theorem sameB_to {mem : List (Nat × Arr)} {a : AV} (h : sameB a = true) : ArgTo mem a a := by
  cases a with
  | agg cs =>
    refine .agg rfl fun q c c' hc hc' => ?_
    obtain rfl : c = c' := Option.some.inj (hc.symm.trans hc')
    have := (List.all_eq_true.1 h) c (List.mem_of_getElem? hc)
    exact .same (by simpa using this)
  | _ => exact .same (by simpa [sameB] using h)
theorem sames_to {mem : List (Nat × Arr)} : ∀ {as : List AV}, as.all sameB = true → ArgsTo mem as as
  | [], _ => trivial
  | a :: r, h => by
    simp only [List.all_cons, Bool.and_eq_true] at h
    exact ⟨sameB_to h.1, sames_to h.2⟩
theorem acall_same {R : CallRel} {s : AS} {g : FuncId} {as : List AV} {r : AV} {K : Res → Prop} (hR : R g as r) (ho : as.all sameB = true) (hk : callK s as r K) : acall R s g as K :=
  .inl ⟨as, r, sames_to ho, hR, hk⟩

@[congr] theorem callK_congr {s s' : AS} {as as' : List AV} {r r' : AV} {K : Res → Prop} (h1 : s = s') (h2 : as = as') (h3 : r = r') : callK s as r K = callK s' as' r' K := by rw [h1, h2, h3]
theorem loop_ind {P : Program} {R : CallRel} {c : Code} {Q : Ex → AS → Prop} {s : AS} {α : Type} (p : α → Prop) (μ : α → Nat) (I : α → AS) (x0 : α) (h0 : p x0) (hw : Weak s (I x0))
    (step : ∀ x, p x → awp P R c (Ex.then (fun s' => ∃ y, p y ∧ μ y < μ x ∧ Weak s' (I y)) Q) (I x)) : awp P R (.loop c) Q s := by
  refine loop_weak (I x0) hw ?_
  have key : ∀ n x, μ x = n → p x → awp P R (.loop c) Q (I x) := by
    intro n
    induction n using Nat.strongRecOn with
    | _ n ih =>
      intro x hx hp
      refine awp_loop (I x) (Weak.refl _) (awp_mono (fun _ _ _ h => h) c _ _ _ (then_mono (fun s' h => ?_) (fun _ _ h => h)) (step x hp))
      obtain ⟨y, h1, h2, h3⟩ := h
      exact loop_weak (I y) h3 (ih (μ y) (hx ▸ h2) y rfl h1)
  exact key _ x0 rfl h0
end Go.Ab
end
