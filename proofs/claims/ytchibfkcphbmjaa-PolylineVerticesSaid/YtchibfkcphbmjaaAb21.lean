/- The abstract interpreter: a call, sound. -/
import Derived.Test.YtchibfkcphbmjaaAb20
set_option linter.unusedVariables false
set_option linter.unusedSimpArgs false
set_option linter.unusedSectionVars false

namespace Go.Ab
open Go.RowKit (Below)

/-- What a call yields. -/
def CallYields (R : CallRel) (s : AS) (g : FuncId) (as : List AV) (r : Res) : Prop :=
  ∃ as' v, ArgsTo s.mem as as' ∧ R g as' v ∧
    ((noref v = true ∧ r = ⟨v, [], s.nx, if as.any owns then s.mem.map (·.1) else []⟩) ∨
      ∃ z, frzOf s.mem as = some z ∧ noref v = false ∧ r = ⟨(imp s.nx v).1, (imp s.nx v).2.1 ++ z, (imp s.nx v).2.2, if as.any owns then s.mem.map (·.1) else []⟩)

theorem acall_yields {R : CallRel} {s : AS} {g : FuncId} {as : List AV} {K : Res → Prop} (h : acall R s g as K) : ∃ r, CallYields R s g as r ∧ K r := by
  obtain ⟨as', v, h1, h2, h3⟩ := h
  split at h3
  · rename_i hn; exact ⟨_, ⟨as', v, h1, h2, .inl ⟨hn, rfl⟩⟩, h3⟩
  · rename_i z hn hz; exact ⟨_, ⟨as', v, h1, h2, .inr ⟨z, hz, hn, rfl⟩⟩, h3⟩
  · exact h3.elim

theorem argsTo_get {mem : List (Nat × Arr)} : ∀ {as as' : List AV}, ArgsTo mem as as' → as'.length = as.length ∧ ∀ (j : Nat) (a a' : AV), as[j]? = some a → as'[j]? = some a' → ArgTo mem a a'
  | [], [], _ => ⟨rfl, by simp⟩
  | a :: r, a' :: r', h => by
    obtain ⟨h1, h2⟩ := argsTo_get h.2
    refine ⟨by simp [h1], fun j x y hx hy => ?_⟩
    cases j with
    | zero => simp at hx hy; subst hx hy; exact h.1
    | succ j => exact h2 j x y (by simpa using hx) (by simpa using hy)
  | [], _ :: _, h => h.elim
  | _ :: _, [], h => h.elim

theorem args_perm {E E1 : Env} {w0 : World} {okb : Nat → Prop} {mem z : List (Nat × Arr)} (f1 : Frozen E w0 okb (z ++ mem) E1) {a a' : AV} (hto : ArgTo mem a a') {v : Value} (hv : Rep E a v)
    (h1 : ∀ id off len, a = .own id off len → ∃ sz xs, (get mem id = some (.row sz xs) ∨ get mem id = some (.frz sz xs)) ∧ get (z ++ mem) id = some (.frz sz xs)) (h2 : owns a = true → (∃ id off len, a = .own id off len) ∨ ∃ cs, a = .agg cs ∧ cs.all (fun c => !owns c) = true) :
    RepP E1.w E1.ok a' v := by
  have hv1 := hv.mono f1.le
  cases hto with
  | same h => exact rep_pure h hv1
  | nil sz => obtain rfl := hv.nil_inv; exact .slNil sz
  | @row id off len sz xs hg hl =>
    obtain ⟨sz', xs', q1, q2⟩ := h1 id off len rfl
    rw [hg] at q1
    obtain ⟨rfl, rfl⟩ : sz = sz' ∧ xs = xs' := by simpa using q1
    exact frz_rep f1.mem q2 hv1 hl
  | @frz id off len sz xs hg hl =>
    obtain ⟨sz', xs', q1, q2⟩ := h1 id off len rfl
    rw [hg] at q1
    obtain ⟨rfl, rfl⟩ : sz = sz' ∧ xs = xs' := by simpa using q1
    exact frz_rep f1.mem q2 hv1 hl
  | @empty id off sz sz' xs hg =>
    obtain ⟨sz2, xs2, q1, q2⟩ := h1 id off 0 rfl
    rcases hv1.own_inv.2 with ⟨hl, rfl, _, rfl⟩ | ⟨b, o, zz, cap, hl, rfl, hc, c0, t0, f0, hb0, _⟩
    · exact .slNil sz'
    · have hr := (f1.mem.arr id _ q2).2
      simp only [ArrRel, hl] at hr
      obtain ⟨_, _, _, _, hok, _⟩ := hr
      exact .sl sz' [] b _ cap (fun _ _ => undef) hok (by simp) (by simp) (by simp) (by simp) (by simp)
  | box hg hl hv => rcases h2 rfl with ⟨_, _, _, e⟩ | ⟨_, e, _⟩ <;> cases e
  | fn hx hy h1 h2' => rcases h2 rfl with ⟨_, _, _, e⟩ | ⟨_, e, _⟩ <;> cases e
  | @agg x x' hx hc =>
    rcases h2 rfl with ⟨_, _, _, e⟩ | ⟨cs, e, hall⟩
    · cases e
    · obtain rfl : x = cs := by simpa using e
      obtain ⟨cv, rfl, g1, r1⟩ := hv1.agg_inv
      refine .agg x' cv (by rw [r1.1, hx]) g1 (fun j c u hj hu => ?_)
      obtain ⟨c1, hc1⟩ : ∃ c1, x[j]? = some c1 := ⟨_, List.getElem?_eq_getElem (by rw [← hx]; exact (List.getElem?_eq_some_iff.1 hj).1)⟩
      have ho : owns c1 = false := by
        have := (List.all_eq_true.1 hall) c1 (List.mem_of_getElem? hc1)
        simpa using this
      have hcr := r1.2 j c1 u hc1 hu
      cases hc j c1 c hc1 hj with
      | same h => exact rep_pure ho hcr
      | nil sz => obtain rfl := hcr.nil_inv; exact .slNil sz
      | row _ _ => simp [owns] at ho
      | frz _ _ => simp [owns] at ho
      | empty _ => simp [owns] at ho
      | box _ _ _ => simp [owns] at ho
      | fn _ _ _ _ => simp [owns] at ho
      | agg _ _ => simp [owns] at ho

theorem rrs_sc {w : World} {ok : Nat → Prop} {h : Nat} : ∀ {cs : List AV} {cv : List Value} {bs : List Nat}, cs.all isSc = true → RRs w ok h cs cv bs → ∀ (E : Env), Reps E cs cv := by
  intro cs
  induction cs with
  | nil => intro cv bs _ hr E; cases hr; exact ⟨rfl, by simp⟩
  | cons a r ih =>
    intro cv bs hall hr E
    simp only [List.all_cons, Bool.and_eq_true] at hall
    cases hr with
    | cons ha hr =>
      have h2 := ih hall.2 hr E
      refine ⟨by simp [h2.1], fun j c u hc hu => ?_⟩
      cases j with
      | zero =>
        simp at hc hu
        subst hc hu
        cases ha with
        | pure hp => cases hp <;> first | (simp [isSc] at hall; done) | exact .pure (.sc _)
        | frNil _ => simp [isSc] at hall
        | fr => simp [isSc] at hall
      | succ j => exact h2.2 j c u (by simpa using hc) (by simpa using hu)
    | agg _ _ _ => simp [isSc] at hall

theorem repP_sc {w : World} {ok : Nat → Prop} {a : AV} {v : Value} (h : RepP w ok a v) (hn : noref1 a = true) (E : Env) : Rep E a v := by
  cases h with
  | sc _ => exact .pure (.sc _)
  | agg cs cv hl h1 hv =>
    simp only [noref1] at hn
    refine .agg cs cv hl h1 (fun j c u hj hu => ?_)
    have hs := (List.all_eq_true.1 hn) c (List.mem_of_getElem? hj)
    have := hv j c u hj hu
    cases this <;> first | (simp [isSc] at hs; done) | exact .pure (.sc _)
  | _ => simp [noref1] at hn

theorem rrs_noref {w : World} {ok : Nat → Prop} {h : Nat} : ∀ {cs : List AV} {cv : List Value} {bs : List Nat}, cs.all noref1 = true → RRs w ok h cs cv bs → ∀ (E : Env), Reps E cs cv := by
  intro cs
  induction cs with
  | nil => intro cv bs _ hr E; cases hr; exact ⟨rfl, by simp⟩
  | cons a r ih =>
    intro cv bs hall hr E
    simp only [List.all_cons, Bool.and_eq_true] at hall
    have tail : ∀ (v : Value) (vs : List Value), Rep E a v → Reps E r vs → Reps E (a :: r) (v :: vs) := by
      intro v vs h1 h2
      refine ⟨by simp [h2.1], fun j c u hc hu => ?_⟩
      cases j with
      | zero => simp at hc hu; subst hc hu; exact h1
      | succ j => exact h2.2 j c u (by simpa using hc) (by simpa using hu)
    cases hr with
    | cons ha hr =>
      refine tail _ _ ?_ (ih hall.2 hr E)
      cases ha with
      | pure hp => exact repP_sc hp hall.1 E
      | frNil _ => simp [noref1] at hall
      | fr => simp [noref1] at hall
    | @agg cs cv _ vs x y g1 ha hr =>
      refine tail _ _ ?_ (ih hall.2 hr E)
      have hs : cs.all isSc = true := by simpa only [noref1] using hall.1
      have := rrs_sc hs ha E
      exact .agg cs cv this.1 g1 this.2

theorem noref_res {w w' : World} {ok : Nat → Prop} {r : AV} {v : Value} (h : ResOk w w' ok r v) (hn : noref r = true) (E : Env) : Rep E r v := by
  obtain ⟨bs, rs, vs, _, hr, rfl, rfl⟩ := h
  have key : rs.all noref1 = true ∨ (∃ rs', rs = [.tup rs'] ∧ rs'.all noref1 = true) := by
    match rs, hn with
    | [a], hn =>
      cases a with
      | sc v => exact .inl rfl
      | agg cs => exact .inl (by simpa [noref, noref1] using hn)
      | tup l => exact .inr ⟨l, rfl, hn⟩
      | _ => simp [noref] at hn
    | [], hn => exact .inl rfl
    | _ :: _ :: _, hn => exact .inl hn
  rcases key with key | ⟨rs', rfl, hk⟩
  · have hR := rrs_noref key hr E
    match rs, vs, hR with
    | [a], [u], hR => exact hR.2 0 a u rfl rfl
    | [], [], hR => exact .tup [] [] rfl (by simp)
    | a :: b :: l, u :: x :: l', hR => exact .tup _ _ hR.1 hR.2
    | [], _ :: _, hR => have := hR.1; simp at this
    | [_], [], hR => have := hR.1; simp at this
    | [_], _ :: _ :: _, hR => have := hR.1; simp at this
    | _ :: _ :: _, [], hR => have := hR.1; simp at this
    | _ :: _ :: _, [_], hR => have := hR.1; simp at this
  · cases hr with
    | cons ha hr =>
      cases hr
      cases ha with
      | pure hp =>
        cases hp with
        | tup _ cv hl hv =>
          refine .tup rs' cv hl (fun j c u hj hu => ?_)
          exact repP_sc (hv j c u hj hu) ((List.all_eq_true.1 hk) c (List.mem_of_getElem? hj)) E
end Go.Ab
