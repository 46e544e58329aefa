/- The abstract interpreter, run on known data: sound. -/
import Derived.Test.YtmdeiagmlabfmaaDoorAb32
set_option linter.unusedVariables false
set_option linter.unusedSimpArgs false
set_option linter.unusedSectionVars false

namespace Go.Ab

def mapO (f : AV → Option AV) : List AV → Option (List AV)
  | [] => some []
  | a :: r => match f a, mapO f r with
    | some a', some r' => some (a' :: r')
    | _, _ => none
/-- An argument, as a callee gets it. -/
def toArg (mem : List (Nat × Arr)) : Nat → AV → Option AV
  | 0, a => if owns a then none else some a
  | n + 1, a => match a with
    | .own id off len => (match get mem id with
      | some (.row sz xs) => if off + len ≤ xs.length then some (.sl sz ((xs.drop off).take len)) else none
      | some (.frz sz xs) => if off + len ≤ xs.length then some (.sl sz ((xs.drop off).take len)) else none
      | _ => none)
    | .ptr id i j => (match get mem id with
      | some (.box cs) => if i = 0 then (mapO (toArg mem n) (cs.drop j)).map .ref else none
      | _ => none)
    | .fn f x y => (match mapO (toArg mem n) x, mapO (toArg mem n) y with
      | some x', some y' => some (.fn f x' y')
      | _, _ => none)
    | .agg x => (mapO (toArg mem n) x).map .agg
    | a => if owns a then none else some a
theorem mapO_get {f : AV → Option AV} : ∀ {x x' : List AV}, mapO f x = some x' → x'.length = x.length ∧ ∀ (q : Nat) (c c' : AV), x[q]? = some c → x'[q]? = some c' → f c = some c'
  | [], x', h => by
    obtain rfl : [] = x' := Option.some.inj h
    exact ⟨rfl, by simp⟩
  | a :: r, x', h => by
    unfold mapO at h
    split at h
    · rename_i a' r' h1 h2
      obtain rfl := Option.some.inj h
      obtain ⟨h3, h4⟩ := mapO_get h2
      refine ⟨by simp [h3], fun q c c' hq hq' => ?_⟩
      cases q with
      | zero => simp at hq hq'; subst hq hq'; exact h1
      | succ q => exact h4 q c c' (by simpa using hq) (by simpa using hq')
    · cases h
theorem toArg_to {mem : List (Nat × Arr)} : ∀ {n : Nat} {a a' : AV}, toArg mem n a = some a' → ArgTo mem a a' := by
  intro n
  induction n with
  | zero =>
    intro a a' h
    unfold toArg at h
    split at h
    · cases h
    · rename_i ho; obtain rfl := Option.some.inj h; exact .same (by simpa using ho)
  | succ n ih =>
    intro a a' h
    unfold toArg at h
    split at h
    · split at h
      · rename_i hg
        split at h
        · rename_i hl; obtain rfl := Option.some.inj h; exact .row hg hl
        · cases h
      · rename_i hg
        split at h
        · rename_i hl; obtain rfl := Option.some.inj h; exact .frz hg hl
        · cases h
      · cases h
    · split at h
      · rename_i hg
        split at h
        · rename_i hi
          subst hi
          cases hm : mapO (toArg mem n) (List.drop _ _) with
          | none => rw [hm] at h; cases h
          | some y =>
            rw [hm] at h
            obtain rfl := Option.some.inj h
            obtain ⟨h1, h2⟩ := mapO_get hm
            exact .box hg h1 fun q c c' hc hc' => ih (h2 q c c' hc hc')
        · cases h
      · cases h
    · split at h
      · rename_i h1 h2
        obtain rfl := Option.some.inj h
        obtain ⟨g1, g2⟩ := mapO_get h1
        obtain ⟨g3, g4⟩ := mapO_get h2
        exact .fn g1 g3 (fun q c c' hc hc' => ih (g2 q c c' hc hc')) (fun q c c' hc hc' => ih (g4 q c c' hc hc'))
      · cases h
    · rename_i x
      cases hm : mapO (toArg mem n) x with
      | none => rw [hm] at h; cases h
      | some y =>
        rw [hm] at h
        obtain rfl := Option.some.inj h
        obtain ⟨h1, h2⟩ := mapO_get hm
        exact .agg h1 fun q c c' hc hc' => ih (h2 q c c' hc hc')
    · split at h
      · cases h
      · rename_i ho; obtain rfl := Option.some.inj h; exact .same (by simpa using ho)

/-- An argument of a parameter of type t: nil is an empty slice. -/
def argIn (P : Program) (mem : List (Nat × Arr)) (t : Option TypeId) (a : AV) : Option AV :=
  match a with
  | .nil => match (t.bind (telem P)).bind (tsz P) with
    | some (_, n) => some (.sl n [])
    | none => some .nil
  | a => toArg mem 4 a
theorem argIn_to {P : Program} {mem : List (Nat × Arr)} {t : Option TypeId} {a a' : AV} (h : argIn P mem t a = some a') : ArgTo mem a a' := by
  unfold argIn at h
  split at h
  · split at h
    · obtain rfl := Option.some.inj h; exact .nil _
    · obtain rfl := Option.some.inj h; exact .same rfl
  · exact toArg_to h
def argsIn (P : Program) (mem : List (Nat × Arr)) : List TypeId → List AV → Option (List AV)
  | _, [] => some []
  | ts, a :: r => match argIn P mem ts.head? a, argsIn P mem ts.tail r with
    | some a', some r' => some (a' :: r')
    | _, _ => none
theorem argsIn_to {P : Program} {mem : List (Nat × Arr)} : ∀ {ts : List TypeId} {as as' : List AV}, argsIn P mem ts as = some as' → ArgsTo mem as as'
  | ts, [], as', h => by
    unfold argsIn at h
    obtain rfl := Option.some.inj h
    trivial
  | ts, a :: r, as', h => by
    unfold argsIn at h
    split at h
    · rename_i h1 h2
      obtain rfl := Option.some.inj h
      exact ⟨argIn_to h1, argsIn_to h2⟩
    · cases h

abbrev CallFn := FuncId → List AV → Option AV
/-- A call in place. -/
def exMut (call : CallFn) (s : AS) (g : FuncId) (as : List AV) : Option Res :=
  match as with
  | [.own id off len] => (match get s.mem id with
    | some (.row sz xs) => if off + len ≤ xs.length ∧ (0 < len ∧ len ≤ 9223372036854775807) then
        (match call g [.fr sz ((xs.drop off).take len)] with
        | some (.fr sz' ys) => if sz' = sz then some (mutRes s id off len sz xs ys) else none
        | _ => none)
      else none
    | _ => none)
  | _ => none
theorem exMut_sound {R : CallRel} {call : CallFn} (hcall : ∀ f as r, call f as = some r → R f as r) {s : AS} {g : FuncId} {as : List AV} {r : Res} {K : Res → Prop} (h : exMut call s g as = some r) (hK : K r) : amut R s g as K := by
  unfold exMut at h
  split at h
  · split at h
    · rename_i hg
      split at h
      · rename_i hc
        split at h
        · rename_i hr
          split at h
          · rename_i e
            subst e
            obtain rfl := Option.some.inj h
            exact ⟨_, _, _, _, _, _, rfl, hg, hc.1, hc.2, hcall _ _ _ hr, hK⟩
          · cases h
        · cases h
      · cases h
    · cases h
  · cases h
def exCall (P : Program) (call : CallFn) (s : AS) (g : FuncId) (as : List AV) : Option Res :=
  match exMut call s g as with
  | some r => some r
  | none => match argsIn P s.mem (match P.funcs[g]? with | some fn => fn.params.toList | none => []) as with
  | some as' => match call g as' with
    | some r => match noref r, frzOf s.mem as with
      | true, _ => some ⟨r, [], s.nx, if as.any owns then s.mem.map (·.1) else []⟩
      | false, some z => some ⟨(imp s.nx r).1, (imp s.nx r).2.1 ++ z, (imp s.nx r).2.2, if as.any owns then s.mem.map (·.1) else []⟩
      | false, none => none
    | none => none
  | none => none
def exOp (P : Program) (call : CallFn) (o : Oper) (s : AS) : Option Res :=
  match o.op with
  | .call ⟨.value f, args, ts⟩ => (match callee s ⟨.value f, args, ts⟩ with | some x => exCall P call s x.1 x.2 | none => none)
  | _ => ev P o s
def exOps (P : Program) (call : CallFn) (all : Array Oper) : List Oper → AS → Log → Option (AS × Log)
  | [], s, lg => some (s, lg)
  | o :: rest, s, lg => match o.guard with
    | none => (match exOp P call o s with
      | some r => exOps P call all rest (s.put o.dst r) ((r.rd, r.d.map (·.1)) :: lg)
      | none => none)
    | some (j, want) => match guardVal all s j with
      | some b => if (b == some want) = true then (match exOp P call o s with
          | some r => exOps P call all rest (s.put o.dst r) ((r.rd, r.d.map (·.1)) :: lg)
          | none => none)
        else exOps P call all rest (s.junk o.dst) (([], []) :: lg)
      | none => none
def drawOkB (ops : Array Oper) (lg : Log) : Bool := ordOk ops && tmpsOk ops && noConf (Region.before ops) lg

def dedup {α : Type} : List Nat → List (Nat × α) → List (Nat × α)
  | _, [] => []
  | seen, (u, v) :: r => if seen.contains u then dedup seen r else (u, v) :: dedup (u :: seen) r
theorem get_dedup {α : Type} : ∀ (l : List (Nat × α)) (seen : List Nat) (t : Nat), seen.contains t = false → get (dedup seen l) t = get l t
  | [], _, _, _ => rfl
  | (u, v) :: r, seen, t, h => by
    unfold dedup
    split
    · rename_i hu
      have hne : u ≠ t := fun e => by subst e; rw [h] at hu; cases hu
      rw [get_cons, if_neg hne]
      exact get_dedup r seen t h
    · rw [get_cons, get_cons]
      split
      · rfl
      · rename_i hne
        refine get_dedup r (u :: seen) t ?_
        simp only [List.contains_cons, h, Bool.or_false]
        simpa using fun e => hne e.symm
def tidy (s : AS) : AS := ⟨dedup [] s.tm, dedup [] s.mem, s.nx⟩
theorem tidy_weak (s : AS) : Weak s (tidy s) := by
  rintro n w0 okb a w ⟨E, rfl, hal, hG⟩
  exact ⟨E, rfl, hal, hG.same ⟨fun t => (get_dedup s.tm [] t rfl).symm, fun t => (get_dedup s.mem [] t rfl).symm⟩⟩

def exLoop (f : AS → Option (Ex × AS)) : Nat → AS → Option (Ex × AS)
  | 0, _ => none
  | n + 1, s => match f s with
    | some (.normal, s') => exLoop f n (tidy s')
    | some (.exit i, s') => some (.exit i, s')
    | some (.ret, s') => some (.ret, s')
    | none => none
def exC (P : Program) (call : CallFn) (k : Nat) : Code → AS → Option (Ex × AS)
  | .skip, s => some (.normal, s)
  | .region _ ops false, s => (match exOps P call ops ops.toList s [] with | some (s', _) => some (.normal, s') | none => none)
  | .region _ ops true, s => (match exOps P call ops ops.toList s [] with | some (s', lg) => if drawOkB ops lg = true then some (.normal, s') else none | none => none)
  | .seq x y, s => (match exC P call k x s with
    | some (.normal, s') => exC P call k y s'
    | some (.exit i, s') => some (.exit i, s')
    | some (.ret, s') => some (.ret, s')
    | none => none)
  | .cond c x y, s => (match condVal s c with
    | some true => exC P call k x s
    | some false => exC P call k y s
    | none => none)
  | .block id x, s => (match exC P call k x s with
    | some (.normal, s') => some (.normal, s')
    | some (.exit i, s') => if (i == id) = true then some (.normal, s') else some (.exit i, s')
    | some (.ret, s') => some (.ret, s')
    | none => none)
  | .loop x, s => exLoop (fun s => exC P call k x s) k s
  | .exit i, s => some (.exit i, s)
  | .ret, s => some (.ret, s)
  | _, _ => none

section
variable {P : Program} {R : CallRel} {call : CallFn} (hcall : ∀ f as r, call f as = some r → R f as r)
include hcall
theorem exCall_sound {s : AS} {g : FuncId} {as : List AV} {r : Res} {K : Res → Prop} (h : exCall P call s g as = some r) (hK : K r) : acall R s g as K := by
  unfold exCall at h
  split at h
  · rename_i hm
    obtain rfl := Option.some.inj h
    exact .inr (exMut_sound hcall hm hK)
  · split at h
    · rename_i as' h1
      split at h
      · rename_i v h2
        refine .inl ⟨as', v, argsIn_to h1, hcall _ _ _ h2, ?_⟩
        split at h
        · rename_i e; rw [e]; obtain rfl := Option.some.inj h; exact hK
        · rename_i e e'; rw [e, e']; obtain rfl := Option.some.inj h; exact hK
        · cases h
      · cases h
    · cases h
theorem exOp_sound {o : Oper} {s : AS} {r : Res} {K : Res → Prop} (h : exOp P call o s = some r) (hK : K r) : aop P R o s K := by
  unfold exOp at h
  unfold aop
  split at h
  · rename_i f args ts e
    rw [e]
    split at h
    · rename_i x hx
      show optK (callee s _) _
      rw [hx]
      exact exCall_sound hcall h hK
    · cases h
  · rename_i hn
    split
    · rename_i f args ts e; exact (hn f args ts e).elim
    · rw [h]; exact hK
theorem exOps_sound {all : Array Oper} {K : AS → Log → Prop} : ∀ {l : List Oper} {s : AS} {lg : Log} {s' : AS} {lg' : Log}, exOps P call all l s lg = some (s', lg') → K s' lg' → awops P R all l s lg K
  | [], s, lg, s', lg', h, hK => by
    unfold exOps at h
    obtain ⟨rfl, rfl⟩ := Prod.mk.inj (Option.some.inj h)
    exact hK
  | o :: rest, s, lg, s', lg', h, hK => by
    unfold exOps at h
    unfold awops
    split at h
    · rename_i e
      rw [e]
      split at h
      · rename_i r hr
        exact exOp_sound hcall hr (exOps_sound h hK)
      · cases h
    · rename_i j want e
      rw [e]
      split at h
      · rename_i b hb
        show optK (guardVal all s j) _
        rw [hb]
        show Br _ _ _
        unfold Br
        split at h
        · rename_i hw
          rw [if_pos hw]
          split at h
          · rename_i r hr
            exact exOp_sound hcall hr (exOps_sound h hK)
          · cases h
        · rename_i hw
          rw [if_neg hw]
          exact exOps_sound h hK
      · cases h
theorem exLoop_sound {c : Code} {Q : Ex → AS → Prop} {f : AS → Option (Ex × AS)} (hf : ∀ s e s' (Q : Ex → AS → Prop), f s = some (e, s') → Q e s' → awp P R c Q s) : ∀ {n : Nat} {s : AS} {e : Ex} {s' : AS}, exLoop f n s = some (e, s') → Q e s' → awp P R (.loop c) Q s
  | 0, s, e, s', h, _ => by unfold exLoop at h; cases h
  | n + 1, s, e, s', h, hQ => by
    unfold exLoop at h
    refine awp_loop s (Weak.refl _) ?_
    split at h
    · rename_i s1 h1
      exact hf _ _ _ _ h1 (show awp P R (.loop c) Q s1 from loop_weak _ (tidy_weak s1) (exLoop_sound hf h hQ))
    · rename_i i s1 h1
      obtain ⟨rfl, rfl⟩ := Prod.mk.inj (Option.some.inj h)
      exact hf _ _ _ _ h1 (show Q _ _ from hQ)
    · rename_i s1 h1
      obtain ⟨rfl, rfl⟩ := Prod.mk.inj (Option.some.inj h)
      exact hf _ _ _ _ h1 (show Q _ _ from hQ)
    · cases h
theorem exC_sound {k : Nat} : ∀ (c : Code) (s : AS) (e : Ex) (s' : AS) (Q : Ex → AS → Prop), exC P call k c s = some (e, s') → Q e s' → awp P R c Q s := by
  intro c
  induction c with
  | skip =>
    intro s e s' Q h hQ
    obtain ⟨rfl, rfl⟩ := Prod.mk.inj (Option.some.inj h)
    exact hQ
  | exit i =>
    intro s e s' Q h hQ
    obtain ⟨rfl, rfl⟩ := Prod.mk.inj (Option.some.inj h)
    exact hQ
  | ret =>
    intro s e s' Q h hQ
    obtain ⟨rfl, rfl⟩ := Prod.mk.inj (Option.some.inj h)
    exact hQ
  | region id ops dr =>
    intro s e s' Q h hQ
    cases dr with
    | false =>
      simp only [exC] at h
      split at h
      · rename_i s1 lg h1
        obtain ⟨rfl, rfl⟩ := Prod.mk.inj (Option.some.inj h)
        exact exOps_sound hcall h1 hQ
      · cases h
    | true =>
      simp only [exC] at h
      split at h
      · rename_i s1 lg h1
        split at h
        · rename_i hd
          obtain ⟨rfl, rfl⟩ := Prod.mk.inj (Option.some.inj h)
          simp only [drawOkB, Bool.and_eq_true] at hd
          exact exOps_sound hcall h1 ⟨⟨hd.1.1, hd.1.2, hd.2⟩, hQ⟩
        · cases h
      · cases h
  | seq x y ihx ihy =>
    intro s e s' Q h hQ
    simp only [exC] at h
    show awp P R x _ s
    split at h
    · rename_i s1 h1
      exact ihx _ _ _ _ h1 (show awp P R y Q s1 from ihy _ _ _ _ h hQ)
    · rename_i i s1 h1
      obtain ⟨rfl, rfl⟩ := Prod.mk.inj (Option.some.inj h)
      exact ihx _ _ _ _ h1 (show Q _ _ from hQ)
    · rename_i s1 h1
      obtain ⟨rfl, rfl⟩ := Prod.mk.inj (Option.some.inj h)
      exact ihx _ _ _ _ h1 (show Q _ _ from hQ)
    · cases h
  | cond c x y ihx ihy =>
    intro s e s' Q h hQ
    simp only [exC] at h
    show optK (condVal s c) _
    split at h
    · rename_i h1; rw [h1]; exact ihx _ _ _ _ h hQ
    · rename_i h1; rw [h1]; exact ihy _ _ _ _ h hQ
    · cases h
  | block id x ihx =>
    intro s e s' Q h hQ
    simp only [exC] at h
    show awp P R x _ s
    split at h
    · rename_i s1 h1
      obtain ⟨rfl, rfl⟩ := Prod.mk.inj (Option.some.inj h)
      exact ihx _ _ _ _ h1 (show Q _ _ from hQ)
    · rename_i i s1 h1
      refine ihx _ _ _ _ h1 (show Br _ _ _ from ?_)
      unfold Br
      split at h
      · rename_i hi; obtain ⟨rfl, rfl⟩ := Prod.mk.inj (Option.some.inj h); rw [if_pos hi]; exact hQ
      · rename_i hi; obtain ⟨rfl, rfl⟩ := Prod.mk.inj (Option.some.inj h); rw [if_neg hi]; exact hQ
    · rename_i s1 h1
      obtain ⟨rfl, rfl⟩ := Prod.mk.inj (Option.some.inj h)
      exact ihx _ _ _ _ h1 (show Q _ _ from hQ)
    · cases h
  | loop x ihx =>
    intro s e s' Q h hQ
    simp only [exC] at h
    exact exLoop_sound hcall (fun s e s' Q h hq => ihx s e s' Q h hq) h hQ
  | _ => intro s e s' Q h; simp only [exC] at h; cases h
end

/-- What is handed back. -/
def outC (mem : List (Nat × Arr)) (used : List Nat) (a : AV) : Option (AV × List Nat) :=
  match a with
  | .own id off len => (match get mem id with
    | some (.row sz ys) => if off + len ≤ ys.length ∧ used.contains id = false then some (.fr sz ((ys.drop off).take len), id :: used) else none
    | some (.frz sz ys) => if off + len ≤ ys.length then some (.sl sz ((ys.drop off).take len), used) else none
    | _ => none)
  | a => if owns a then none else some (a, used)
def outCs (mem : List (Nat × Arr)) : List AV → List Nat → Option (List AV × List Nat)
  | [], used => some ([], used)
  | a :: r, used => match outC mem used a with
    | some (a', u) => (match outCs mem r u with
      | some (r', u') => some (a' :: r', u')
      | none => none)
    | none => none
def outTs (mem : List (Nat × Arr)) : List AV → List Nat → Option (List AV × List Nat)
  | [], used => some ([], used)
  | a :: r, used => match (match a with
      | .agg cs => (match outCs mem cs used with | some (cs', u) => some (AV.agg cs', u) | none => none)
      | a => outC mem used a) with
    | some (a', u) => (match outTs mem r u with
      | some (r', u') => some (a' :: r', u')
      | none => none)
    | none => none
theorem outC_sound {mem : List (Nat × Arr)} {used u : List Nat} {a a' : AV} {K : List Nat → Prop} (h : outC mem used a = some (a', u)) (hK : K u) : retC mem a a' used K := by
  unfold outC at h
  split at h
  · rename_i id off len
    split at h
    · rename_i hg
      split at h
      · rename_i hc
        obtain ⟨rfl, rfl⟩ := Prod.mk.inj (Option.some.inj h)
        simp only [retC, hg]
        exact ⟨trivial, hc.1, trivial, hc.2, hK⟩
      · cases h
    · rename_i hg
      split at h
      · rename_i hc
        obtain ⟨rfl, rfl⟩ := Prod.mk.inj (Option.some.inj h)
        simp only [retC, hg]
        exact ⟨trivial, hc, trivial, hK⟩
      · cases h
    · cases h
  · split at h
    · cases h
    · rename_i ho
      obtain ⟨rfl, rfl⟩ := Prod.mk.inj (Option.some.inj h)
      have ho : owns a = false := by simpa using ho
      cases a <;> first | (cases ho; done) | exact ⟨rfl, rfl, hK⟩
theorem outCs_sound {mem : List (Nat × Arr)} {K : List Nat → Prop} : ∀ {as as' : List AV} {used u : List Nat}, outCs mem as used = some (as', u) → K u → retCs mem as as' used K
  | [], as', used, u, h, hK => by
    unfold outCs at h
    obtain ⟨rfl, rfl⟩ := Prod.mk.inj (Option.some.inj h)
    exact hK
  | a :: r, as', used, u, h, hK => by
    unfold outCs at h
    split at h
    · rename_i h1
      split at h
      · rename_i h2
        obtain ⟨rfl, rfl⟩ := Prod.mk.inj (Option.some.inj h)
        exact outC_sound h1 (outCs_sound h2 hK)
      · cases h
    · cases h
theorem outTs_sound {mem : List (Nat × Arr)} {K : List Nat → Prop} : ∀ {as as' : List AV} {used u : List Nat}, outTs mem as used = some (as', u) → K u → retTs mem as as' used K
  | [], as', used, u, h, hK => by
    unfold outTs at h
    obtain ⟨rfl, rfl⟩ := Prod.mk.inj (Option.some.inj h)
    exact hK
  | a :: r, as', used, u, h, hK => by
    unfold outTs at h
    split at h
    · rename_i h1
      split at h
      · rename_i h2
        obtain ⟨rfl, rfl⟩ := Prod.mk.inj (Option.some.inj h)
        split at h1
        · split at h1
          · rename_i h3
            obtain ⟨rfl, rfl⟩ := Prod.mk.inj (Option.some.inj h1)
            exact outCs_sound h3 (outTs_sound h2 hK)
          · cases h1
        · rename_i hna
          have := outC_sound (K := fun u => retTs mem r _ u K) h1 (outTs_sound h2 hK)
          cases a <;> first | exact this | exact (hna _ rfl).elim
      · cases h
    · cases h
def exRet (P : Program) (rv : Array ResultVar) (s : AS) : Option AV :=
  match resVars P s rv.toList with
  | some vs => (match outTs s.mem vs [] with
    | some (ws, _) => (match vs, ws with
      | [_], [w] => some w
      | [_], _ => none
      | _, ws => some (.tup ws))
    | none => none)
  | none => none
theorem exRet_sound {P : Program} {rv : Array ResultVar} {s : AS} {r : AV} {e : Ex} (he : ∀ i, e ≠ .exit i) (h : exRet P rv s = some r) : retPost P rv r e s := by
  unfold exRet at h
  split at h
  · rename_i vs h1
    split at h
    · rename_i ws u h2
      have key : optK (resVars P s rv.toList) fun vs => retTs s.mem vs (unpack vs r) [] fun _ => packs vs r = true := by
        rw [h1]
        show retTs s.mem vs (unpack vs r) [] _
        split at h
        · obtain rfl := Option.some.inj h
          exact outTs_sound h2 rfl
        · cases h
        · rename_i hn hn'
          obtain rfl := Option.some.inj h
          have h3 : unpack vs (.tup ws) = ws := by
            rcases vs with _ | ⟨v, _ | ⟨v', r'⟩⟩
            · rfl
            · rcases ws with _ | ⟨w, _ | ⟨w', r'⟩⟩ <;> first | exact (hn' v _ rfl rfl).elim | exact (hn _ _ rfl rfl).elim | exact (hn' v rfl).elim | simp_all
            · rfl
          rw [h3]
          refine outTs_sound h2 ?_
          match vs with
          | [v] => rfl
          | [] => rfl
          | _ :: _ :: _ => rfl
      cases e with
      | exit i => exact (he i rfl).elim
      | normal => exact key
      | ret => exact key
    · cases h
  · cases h

def progOk (P : Program) : Bool := P.funcs.toList.all fun fn => match fn.body with
  | some c => !(fn.name == "runtime.NumGoroutine") && dstsOk fn.ntmps c
  | none => true
/-- A function, run: k bounds the calls' depth, n the rounds of a loop. -/
def exF (P : Program) (ext : CallFn) (n : Nat) : Nat → CallFn
  | 0, _, _ => none
  | k + 1, f, as => match ext f as with
    | some r => some r
    | none => match P.funcs[f]? with
      | some fn => (match fn.body with
        | some c => if (Nat.ble as.length fn.ntmps && !as.any isFr) = true then
            (match exC P (exF P ext n k) n c (init as) with
            | some (.exit _, _) => none
            | some (.normal, s) => exRet P fn.results s
            | some (.ret, s) => exRet P fn.results s
            | none => none)
          else none
        | none => none)
      | none => none
theorem exF_sound {P : Program} {X : CallRel} {ext : CallFn} (hX : ∀ f as r, ext f as = some r → X f as r) (hP : progOk P = true) {n : Nat} : ∀ {k : Nat} {f : FuncId} {as : List AV} {r : AV}, exF P ext n k f as = some r → Ret P X f as r
  | 0, f, as, r, h => by unfold exF at h; cases h
  | k + 1, f, as, r, h => by
    unfold exF at h
    split at h
    · rename_i h1
      obtain rfl := Option.some.inj h
      exact Ret.ext (hX _ _ _ h1)
    · split at h
      · rename_i fn hf
        split at h
        · rename_i c hb
          have hm : fn ∈ P.funcs.toList := by
            obtain ⟨hlt, e⟩ := Array.getElem?_eq_some_iff.1 hf
            subst e
            exact Array.getElem_mem_toList hlt
          have hg := List.all_eq_true.1 hP fn hm
          simp only [hb, Bool.and_eq_true, Bool.not_eq_true'] at hg
          split at h
          · rename_i hl
            refine Ret.of_body hf hb hg.1 hl hg.2 ?_
            split at h
            · cases h
            · rename_i s he
              exact exC_sound (call := exF P ext n k) (fun f as r h => exF_sound hX hP h) c _ _ _ _ he (exRet_sound (e := .normal) (by intro i; simp) h)
            · rename_i s he
              exact exC_sound (call := exF P ext n k) (fun f as r h => exF_sound hX hP h) c _ _ _ _ he (exRet_sound (e := .ret) (by intro i; simp) h)
            · cases h
          · cases h
        · cases h
      · cases h
end Go.Ab
