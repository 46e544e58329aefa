/- The abstract interpreter: monotone in what is known of calls; the rule for a function; small rules. -/
import Derived.Test.YtmdeiagmlabfmaaDoorAb2
set_option linter.unusedVariables false
set_option linter.unusedSimpArgs false
set_option linter.unusedSectionVars false

namespace Go.Ab

theorem optK_mono {α : Type} {x : Option α} {K K' : α → Prop} (hK : ∀ a, K a → K' a) (H : optK x K) : optK x K' := by
  cases x with
  | none => exact H
  | some a => exact hK a H
theorem Br_mono {b : Bool} {A B A' B' : Prop} (hA : A → A') (hB : B → B') (H : Br b A B) : Br b A' B' := by
  cases b with
  | true => exact hA H
  | false => exact hB H

theorem aop_mono {P : Program} {R R' : CallRel} (h : ∀ f as r, R f as r → R' f as r) {o : Oper} {s : AS} {K K' : Res → Prop} (hK : ∀ r, K r → K' r) :
    aop P R o s K → aop P R' o s K' := by
  unfold aop
  intro H
  split at H
  · refine optK_mono (fun x H => ?_) H
    rcases H with ⟨as', r, h1, h2, h3⟩ | ⟨id, off, len, sz, xs, ys, h1, h2, h3, h4, h5, h6⟩
    · refine .inl ⟨as', r, h1, h _ _ _ h2, ?_⟩
      split at h3 <;> first | exact hK _ h3 | exact h3
    · exact .inr ⟨id, off, len, sz, xs, ys, h1, h2, h3, h4, h _ _ _ h5, hK _ h6⟩
  · exact optK_mono hK H

theorem awops_mono {P : Program} {R R' : CallRel} (h : ∀ f as r, R f as r → R' f as r) (all : Array Oper) {K K' : AS → Log → Prop} (hK : ∀ s l, K s l → K' s l) :
    ∀ (l : List Oper) (s : AS) (lg : Log), awops P R all l s lg K → awops P R' all l s lg K'
  | [], s, lg, H => hK _ _ H
  | o :: rest, s, lg, H => by
    unfold awops at H ⊢
    split at H
    · exact aop_mono h (fun r => awops_mono h all hK rest _ _) H
    · exact optK_mono (fun b => Br_mono (aop_mono h (fun r => awops_mono h all hK rest _ _)) (awops_mono h all hK rest _ _)) H

theorem then_mono {A A' : AS → Prop} {Q Q' : Ex → AS → Prop} (hA : ∀ s, A s → A' s) (hQ : ∀ e s, Q e s → Q' e s) (e : Ex) (s : AS) (H : Ex.then A Q e s) : Ex.then A' Q' e s := by
  cases e with
  | normal => exact hA _ H
  | exit i => exact hQ _ _ H
  | ret => exact hQ _ _ H
theorem inBlock_mono {id : Nat} {Q Q' : Ex → AS → Prop} (hQ : ∀ e s, Q e s → Q' e s) (e : Ex) (s : AS) (H : Ex.inBlock id Q e s) : Ex.inBlock id Q' e s := by
  cases e with
  | normal => exact hQ _ _ H
  | exit i => exact Br_mono (hQ _ _) (hQ _ _) H
  | ret => exact hQ _ _ H

theorem awp_mono {P : Program} {R R' : CallRel} (h : ∀ f as r, R f as r → R' f as r) : ∀ (c : Code) (Q Q' : Ex → AS → Prop) (s : AS), (∀ e s, Q e s → Q' e s) →
    awp P R c Q s → awp P R' c Q' s
  | .skip, Q, Q', s, hq, H => hq _ _ H
  | .region _ ops false, Q, Q', s, hq, H => awops_mono h ops (fun s l hh => hq _ _ hh) _ _ _ H
  | .region _ ops true, Q, Q', s, hq, H => awops_mono h ops (fun s l hh => ⟨hh.1, hq _ _ hh.2⟩) _ _ _ H
  | .seq x y, Q, Q', s, hq, H => awp_mono h x _ _ s (then_mono (fun s' => awp_mono h y _ _ s' hq) hq) H
  | .cond c x y, Q, Q', s, hq, H => optK_mono (fun t => Br_mono (awp_mono h x _ _ s hq) (awp_mono h y _ _ s hq)) H
  | .block id x, Q, Q', s, hq, H => awp_mono h x _ _ s (inBlock_mono hq) H
  | .loop x, Q, Q', s, hq, H => by
    intro I hI
    exact H I fun s1 s2 hw hh => hI s1 s2 hw (awp_mono h x _ _ s2 (then_mono (fun _ h => h) hq) hh)
  | .exit i, Q, Q', s, hq, H => hq _ _ H
  | .ret, Q, Q', s, hq, H => hq _ _ H
  | .rangeFunc .., Q, Q', s, hq, H => H.elim
  | .scope _, Q, Q', s, hq, H => H.elim
  | .label _, Q, Q', s, hq, H => H.elim
  | .goto _, Q, Q', s, hq, H => H.elim
  | .refuse _, Q, Q', s, hq, H => H.elim

theorem Ret.ext {P : Program} {X : CallRel} {f : FuncId} {as : List AV} {r : AV} (h : X f as r) : Ret P X f as r := fun _ hX _ => hX _ _ _ h

theorem Ret.of_body {P : Program} {X : CallRel} {f : FuncId} {as : List AV} {r : AV} {fn : Func} {c : Code} (hf : P.funcs[f]? = some fn) (hb : fn.body = some c)
    (hm : (fn.name == "runtime.NumGoroutine") = false) (hn : (Nat.ble as.length fn.ntmps && !as.any isFr) = true) (hd : dstsOk fn.ntmps c = true) (h : awp P (Ret P X) c (retPost P fn.results r) (init as)) : Ret P X f as r := by
  intro R hX hR
  simp only [Bool.and_eq_true, Bool.not_eq_true'] at hn
  exact hR _ _ _ ⟨fn, c, hf, hb, hm, Nat.le_of_ble_eq_true hn.1, hd, hn.2, awp_mono (fun f as r hr => hr R hX hR) c _ _ _ (fun _ _ h => h) h⟩

theorem awp_loop {P : Program} {R : CallRel} {c : Code} {Q : Ex → AS → Prop} {s : AS} (s' : AS) (hw : Weak s s')
    (h : awp P R c (Ex.then (awp P R (.loop c) Q) Q) s') : awp P R (.loop c) Q s := by
  intro I hI
  exact hI s s' hw (awp_mono (fun _ _ _ h => h) c _ _ s' (then_mono (fun s hh => hh I hI) (fun _ _ h => h)) h)

/-! How simp runs code: what follows is not looked into. -/
@[congr] theorem optK_congr {α : Type} {x x' : Option α} {K : α → Prop} (h : x = x') : optK x K = optK x' K := by rw [h]
@[congr] theorem Br_congr {b b' : Bool} {A B : Prop} (h : b = b') : Br b A B = Br b' A B := by rw [h]
@[congr] theorem acall_congr {R : CallRel} {s s' : AS} {g g' : FuncId} {as as' : List AV} {K : Res → Prop} (h1 : s = s') (h2 : g = g') (h3 : as = as') : acall R s g as K = acall R s' g' as' K := by rw [h1, h2, h3]
@[congr] theorem awops_congr {P : Program} {R : CallRel} {all : Array Oper} {l : List Oper} {s s' : AS} {lg lg' : Log} {K : AS → Log → Prop} (h1 : s = s') (h2 : lg = lg') : awops P R all l s lg K = awops P R all l s' lg' K := by rw [h1, h2]
@[congr] theorem aop_congr {P : Program} {R : CallRel} {o : Oper} {s s' : AS} {K : Res → Prop} (h1 : s = s') : aop P R o s K = aop P R o s' K := by rw [h1]
@[congr] theorem awp_congr {P : Program} {R : CallRel} {c : Code} {s s' : AS} {Q : Ex → AS → Prop} (h1 : s = s') : awp P R c Q s = awp P R c Q s' := by rw [h1]
@[congr] theorem then_congr {A : AS → Prop} {Q : Ex → AS → Prop} {e : Ex} {s s' : AS} (h1 : s = s') : Ex.then A Q e s = Ex.then A Q e s' := by rw [h1]
@[congr] theorem inBlock_congr {i : Nat} {Q : Ex → AS → Prop} {e : Ex} {s s' : AS} (h1 : s = s') : Ex.inBlock i Q e s = Ex.inBlock i Q e s' := by rw [h1]
@[congr] theorem retPost_congr {P : Program} {rv : Array ResultVar} {r : AV} {e : Ex} {s s' : AS} (h1 : s = s') : retPost P rv r e s = retPost P rv r e s' := by rw [h1]
@[congr] theorem DrawOk_congr {ops : Array Oper} {lg lg' : Log} (h1 : lg = lg') : DrawOk ops lg = DrawOk ops lg' := by rw [h1]

@[simp] theorem optK_some {α : Type} (a : α) (K : α → Prop) : optK (some a) K = K a := propext Iff.rfl
@[simp] theorem Br_true (A B : Prop) : Br true A B = A := propext Iff.rfl
@[simp] theorem Br_false (A B : Prop) : Br false A B = B := propext Iff.rfl
theorem Br.intro {b : Bool} {A B : Prop} (hA : b = true → A) (hB : b = false → B) : Br b A B := by
  cases b with
  | true => exact hA rfl
  | false => exact hB rfl
@[simp] theorem then_normal (A : AS → Prop) (Q : Ex → AS → Prop) (s : AS) : Ex.then A Q .normal s = A s := propext Iff.rfl
@[simp] theorem then_exit (A : AS → Prop) (Q : Ex → AS → Prop) (i : Nat) (s : AS) : Ex.then A Q (.exit i) s = Q (.exit i) s := propext Iff.rfl
@[simp] theorem then_ret (A : AS → Prop) (Q : Ex → AS → Prop) (s : AS) : Ex.then A Q .ret s = Q .ret s := propext Iff.rfl
@[simp] theorem inBlock_normal (i : Nat) (Q : Ex → AS → Prop) (s : AS) : Ex.inBlock i Q .normal s = Q .normal s := propext Iff.rfl
@[simp] theorem inBlock_exit (i j : Nat) (Q : Ex → AS → Prop) (s : AS) : Ex.inBlock i Q (.exit j) s = Br (j == i) (Q .normal s) (Q (.exit j) s) := propext Iff.rfl
@[simp] theorem inBlock_ret (i : Nat) (Q : Ex → AS → Prop) (s : AS) : Ex.inBlock i Q .ret s = Q .ret s := propext Iff.rfl
@[simp] theorem awp_skip (P : Program) (R : CallRel) (Q : Ex → AS → Prop) (s : AS) : awp P R .skip Q s = Q .normal s := propext Iff.rfl
@[simp] theorem awp_region (P : Program) (R : CallRel) (i : Nat) (ops : Array Oper) (Q : Ex → AS → Prop) (s : AS) : awp P R (.region i ops false) Q s = awops P R ops ops.toList s [] fun s' _ => Q .normal s' := propext Iff.rfl
@[simp] theorem awp_draw (P : Program) (R : CallRel) (i : Nat) (ops : Array Oper) (Q : Ex → AS → Prop) (s : AS) : awp P R (.region i ops true) Q s = awops P R ops ops.toList s [] fun s' lg => DrawOk ops lg ∧ Q .normal s' := propext Iff.rfl
@[simp] theorem awp_seq (P : Program) (R : CallRel) (x y : Code) (Q : Ex → AS → Prop) (s : AS) : awp P R (.seq x y) Q s = awp P R x (Ex.then (awp P R y Q) Q) s := propext Iff.rfl
@[simp] theorem awp_cond (P : Program) (R : CallRel) (c : Operand) (x y : Code) (Q : Ex → AS → Prop) (s : AS) : awp P R (.cond c x y) Q s = optK (condVal s c) fun t => Br t (awp P R x Q s) (awp P R y Q s) := propext Iff.rfl
@[simp] theorem awp_block (P : Program) (R : CallRel) (i : Nat) (x : Code) (Q : Ex → AS → Prop) (s : AS) : awp P R (.block i x) Q s = awp P R x (Ex.inBlock i Q) s := propext Iff.rfl
@[simp] theorem awp_exit (P : Program) (R : CallRel) (i : Nat) (Q : Ex → AS → Prop) (s : AS) : awp P R (.exit i) Q s = Q (.exit i) s := propext Iff.rfl
@[simp] theorem awp_ret (P : Program) (R : CallRel) (Q : Ex → AS → Prop) (s : AS) : awp P R .ret Q s = Q .ret s := propext Iff.rfl

section
variable (P : Program) (R : CallRel) (d : Option Tmp) (ty : TypeId) (pos : String) (af : Array Edge) (g : Option (Nat × Bool)) (s : AS) (K : Res → Prop)
@[simp] theorem aop_move (x : Operand) : aop P R ⟨d, .move x, ty, pos, af, g⟩ s K = optK (opr s x) fun v => K ⟨v, [], s.nx, []⟩ := by
  simp only [aop, ev]; cases opr s x <;> rfl
@[simp] theorem aop_assign (x : Operand) : aop P R ⟨d, .assign x, ty, pos, af, g⟩ s K = optK (opr s x) fun v => K ⟨v, [], s.nx, []⟩ := by
  simp only [aop, ev]; cases opr s x <;> rfl
@[simp] theorem aop_pick (c x y : Operand) : aop P R ⟨d, .pick c x y, ty, pos, af, g⟩ s K = optK (condVal s c) fun t => Br t (optK (opr s x) fun v => K ⟨v, [], s.nx, []⟩) (optK (opr s y) fun v => K ⟨v, [], s.nx, []⟩) := by
  simp only [aop, ev, condVal]
  rcases opr s c with _ | v
  · rfl
  · rcases v with _ | v | _ | _ | _ | _ | _ | _ | _ | _ | _ <;> try rfl
    cases v with
    | bool t => cases t <;> simp only [optK, Br, Bool.false_eq_true, if_false, if_true] <;> first | (cases opr s y <;> rfl) | (cases opr s x <;> rfl)
    | _ => rfl
@[simp] theorem aop_alloc (t : TypeId) : aop P R ⟨d, .alloc t, ty, pos, af, g⟩ s K = optK (allocE P s t) K := propext Iff.rfl
@[simp] theorem aop_box (t : TypeId) (x : Operand) : aop P R ⟨d, .box t x, ty, pos, af, g⟩ s K = optK (opr s x) fun v => optK (boxE s v) K := by
  simp only [aop, ev]; cases opr s x <;> rfl
@[simp] theorem aop_build (t : TypeId) (ps : Array (Nat × Operand)) : aop P R ⟨d, .build t ps, ty, pos, af, g⟩ s K = optK (oprs2 s ps.toList) fun v => optK (buildE P s t v) K := by
  simp only [aop, ev]; cases oprs2 s ps.toList <;> rfl
@[simp] theorem aop_buildSlice (t : TypeId) (n : Nat) (ps : Array (Nat × Operand)) : aop P R ⟨d, .buildSlice t n ps, ty, pos, af, g⟩ s K = optK (oprs2 s ps.toList) fun v => optK (buildSliceE P s t n v) K := by
  simp only [aop, ev]; cases oprs2 s ps.toList <;> rfl
@[simp] theorem aop_load (t : TypeId) (p : Operand) : aop P R ⟨d, .load t p, ty, pos, af, g⟩ s K = optK (opr s p) fun v => optK (loadE P s t v) K := by
  simp only [aop, ev]; cases opr s p <;> rfl
@[simp] theorem aop_store (t : TypeId) (p x : Operand) : aop P R ⟨d, .store t p x, ty, pos, af, g⟩ s K = optK (opr s p) fun p => optK (opr s x) fun v => optK (storeE P s t p v) K := by
  simp only [aop, ev]; cases opr s p <;> cases opr s x <;> rfl
def nilE (s : AS) : AV → Option Res
  | .ptr id i j => some ⟨.ptr id i j, [], s.nx, []⟩
  | .ref cs => some ⟨.ref cs, [], s.nx, []⟩
  | .fn f a b => some ⟨.fn f a b, [], s.nx, []⟩
  | _ => none
@[simp] theorem aop_nilCheck (x : Operand) : aop P R ⟨d, .nilCheck x, ty, pos, af, g⟩ s K = optK (opr s x) fun v => optK (nilE s v) K := by
  simp only [aop, ev]; cases opr s x with
  | none => rfl
  | some v => cases v <;> rfl
@[simp] theorem aop_binOp (op : BinOp) (t u : TypeId) (x y : Operand) : aop P R ⟨d, .binOp op t x y u, ty, pos, af, g⟩ s K = optK (opr s x) fun a => optK (opr s y) fun b => optK (bin P op t a b) fun v => K ⟨v, [], s.nx, []⟩ := by
  simp only [aop, ev]; rcases opr s x with _ | a <;> rcases opr s y with _ | b <;> first | rfl | (simp only [optK]; cases bin P op t a b <;> rfl)
@[simp] theorem aop_unOp (op : UnOp) (t : TypeId) (x : Operand) : aop P R ⟨d, .unOp op t x, ty, pos, af, g⟩ s K = optK (opr s x) fun a => optK (un op a) fun v => K ⟨v, [], s.nx, []⟩ := by
  simp only [aop, ev]; rcases opr s x with _ | a <;> first | rfl | (simp only [optK]; cases un op a <;> rfl)
@[simp] theorem aop_convert (t u : TypeId) (x : Operand) : aop P R ⟨d, .convert t u x, ty, pos, af, g⟩ s K = optK (opr s x) fun a => optK (convE P s t u a) K := by
  simp only [aop, ev]; cases opr s x <;> rfl
@[simp] theorem aop_makeFunc (f : FuncId) (x y : Array Operand) : aop P R ⟨d, .makeFunc (.func f) x y, ty, pos, af, g⟩ s K = optK (oprs s x.toList) fun a => optK (oprs s y.toList) fun b => K ⟨.fn f a b, [], s.nx, []⟩ := by
  simp only [aop, ev]; cases oprs s x.toList <;> cases oprs s y.toList <;> rfl
@[simp] theorem aop_makeSlice (t : TypeId) (x y : Operand) : aop P R ⟨d, .makeSlice t x y, ty, pos, af, g⟩ s K = optK (opr s x) fun a => optK (opr s y) fun b => optK (makeSliceE P s t a b) K := by
  simp only [aop, ev]; cases opr s x <;> cases opr s y <;> rfl
@[simp] theorem aop_slice00 (t : TypeId) (x : Operand) : aop P R ⟨d, .slice t x none none none, ty, pos, af, g⟩ s K = optK (opr s x) fun a => optK (sliceE P s t a none none) K := by
  simp only [aop, ev]; cases opr s x <;> rfl
@[simp] theorem aop_slice10 (t : TypeId) (x l : Operand) : aop P R ⟨d, .slice t x (some l) none none, ty, pos, af, g⟩ s K = optK (opr s x) fun a => optK (opr s l) fun l => optK (sliceE P s t a (some l) none) K := by
  simp only [aop, ev]; cases opr s x <;> cases opr s l <;> rfl
@[simp] theorem aop_slice01 (t : TypeId) (x h : Operand) : aop P R ⟨d, .slice t x none (some h) none, ty, pos, af, g⟩ s K = optK (opr s x) fun a => optK (opr s h) fun h => optK (sliceE P s t a none (some h)) K := by
  simp only [aop, ev]; cases opr s x <;> cases opr s h <;> rfl
@[simp] theorem aop_slice11 (t : TypeId) (x l h : Operand) : aop P R ⟨d, .slice t x (some l) (some h) none, ty, pos, af, g⟩ s K = optK (opr s x) fun a => optK (opr s l) fun l => optK (opr s h) fun h => optK (sliceE P s t a (some l) (some h)) K := by
  simp only [aop, ev]; cases opr s x <;> cases opr s l <;> cases opr s h <;> rfl
@[simp] theorem aop_fieldAddr (t : TypeId) (x : Operand) (f : Nat) : aop P R ⟨d, .fieldAddr t x f, ty, pos, af, g⟩ s K = optK (opr s x) fun a => optK (fieldAddrE P s t a f) K := by
  simp only [aop, ev]; cases opr s x <;> rfl
@[simp] theorem aop_field (t : TypeId) (x : Operand) (f : Nat) : aop P R ⟨d, .field t x f, ty, pos, af, g⟩ s K = optK (opr s x) fun a => optK (fieldE P s t a f) K := by
  simp only [aop, ev]; cases opr s x <;> rfl
@[simp] theorem aop_indexAddr (t : TypeId) (x i : Operand) : aop P R ⟨d, .indexAddr t x i, ty, pos, af, g⟩ s K = optK (opr s x) fun a => optK (opr s i) fun i => optK (indexAddrE P s t a i) K := by
  simp only [aop, ev]; cases opr s x <;> cases opr s i <;> rfl
@[simp] theorem aop_index (t : TypeId) (x i : Operand) : aop P R ⟨d, .index t x i, ty, pos, af, g⟩ s K = optK (opr s x) fun a => optK (opr s i) fun i => optK (indexE P s t a i) K := by
  simp only [aop, ev]; cases opr s x <;> cases opr s i <;> rfl
def extrE (s : AS) (i : Nat) : AV → Option Res
  | .tup vs => match vs[i]? with | some v => some ⟨v, [], s.nx, []⟩ | none => none
  | _ => none
@[simp] theorem aop_extract (x : Operand) (i : Nat) : aop P R ⟨d, .extract x i, ty, pos, af, g⟩ s K = optK (opr s x) fun a => optK (extrE s i a) K := by
  simp only [aop, ev]; cases opr s x with
  | none => rfl
  | some v => cases v <;> rfl
@[simp] theorem aop_builtin (b : Builtin) (xs : Array Operand) (ts : Array TypeId) : aop P R ⟨d, .call ⟨.builtin b, xs, ts⟩, ty, pos, af, g⟩ s K = optK (oprs s xs.toList) fun v => optK (builtinE P s b ts.toList v) K := by
  simp only [aop, ev]; cases oprs s xs.toList <;> rfl
@[simp] theorem aop_call (f : Operand) (xs : Array Operand) (ts : Array TypeId) : aop P R ⟨d, .call ⟨.value f, xs, ts⟩, ty, pos, af, g⟩ s K = optK (callee s ⟨.value f, xs, ts⟩) fun x => acall R s x.1 x.2 K := propext Iff.rfl
@[simp] theorem awops_nil (all : Array Oper) (lg : Log) (K : AS → Log → Prop) : awops P R all [] s lg K = K s lg := propext Iff.rfl
@[simp] theorem awops_cons (op : Op) (all : Array Oper) (rest : List Oper) (lg : Log) (K : AS → Log → Prop) : awops P R all (⟨d, op, ty, pos, af, none⟩ :: rest) s lg K =
    aop P R ⟨d, op, ty, pos, af, none⟩ s fun r => awops P R all rest (s.put d r) ((r.rd, r.d.map (·.1)) :: lg) K := propext Iff.rfl
@[simp] theorem awops_guard (op : Op) (all : Array Oper) (rest : List Oper) (lg : Log) (K : AS → Log → Prop) (j : Nat) (b : Bool) : awops P R all (⟨d, op, ty, pos, af, some (j, b)⟩ :: rest) s lg K =
    optK (guardVal all s j) fun q => Br (q == some b) (aop P R ⟨d, op, ty, pos, af, some (j, b)⟩ s fun r => awops P R all rest (s.put d r) ((r.rd, r.d.map (·.1)) :: lg) K)
      (awops P R all rest (s.junk d) (([], []) :: lg) K) := propext Iff.rfl
end
end Go.Ab
