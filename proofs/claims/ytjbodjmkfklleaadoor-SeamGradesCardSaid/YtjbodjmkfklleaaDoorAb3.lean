/- The abstract interpreter: what an abstract state says of a world; code. Conditions: none (definitions only). -/
import Derived.Test.YtjbodjmkfklleaaDoorAb1
import Derived.WalkKit
set_option linter.unusedVariables false
set_option linter.unusedSimpArgs false
set_option linter.unusedSectionVars false

section
namespace Go.Ab
open Go.RowKit (Below)

/-- A pure value and what the machine holds: read in world w, in blocks that are ok. -/
inductive RepP (w : World) (ok : Nat → Prop) : AV → Value → Prop
  | jk (v : Value) : RepP w ok .jk v
  | sc (v : Value) : RepP w ok (.sc v) v
  | nil : RepP w ok .nil (.slice none 0 0)
  | slNil (sz : Nat) : RepP w ok (.sl sz []) (.slice none 0 0)
  | slEmp (sz : Nat) (a : Addr) (cap : Nat) : RepP w ok (.sl sz []) (.slice (some a) 0 cap)
  | sl (sz : Nat) (xs : List (List AV)) (b o cap : Nat) (cv : Nat → Nat → Value) (hok : ok b) (hc : xs.length ≤ cap)
      (hz : ∀ (i : Nat) (cs : List AV), xs[i]? = some cs → cs.length = sz)
      (hr : ∀ (i : Nat) (cs : List AV) (j : Nat) (c : AV), xs[i]? = some cs → cs[j]? = some c → w.cell? ⟨b, o + i * sz + j, none⟩ = some (cv i j))
      (h1 : ∀ (i : Nat) (cs : List AV) (j : Nat) (c : AV), xs[i]? = some cs → cs[j]? = some c → (cv i j).oneCell' = true)
      (hv : ∀ (i : Nat) (cs : List AV) (j : Nat) (c : AV), xs[i]? = some cs → cs[j]? = some c → RepP w ok c (cv i j)) :
      RepP w ok (.sl sz xs) (.slice (some ⟨b, o, none⟩) xs.length cap)
  | ref (cs : List AV) (b o : Nat) (cv : Nat → Value) (hok : ok b)
      (hr : ∀ (j : Nat) (c : AV), cs[j]? = some c → w.cell? ⟨b, o + j, none⟩ = some (cv j))
      (h1 : ∀ (j : Nat) (c : AV), cs[j]? = some c → (cv j).oneCell' = true)
      (hv : ∀ (j : Nat) (c : AV), cs[j]? = some c → RepP w ok c (cv j)) : RepP w ok (.ref cs) (.pointer (some ⟨b, o, none⟩))
  | fn (f : FuncId) (first cap : List AV) (fv cv : List Value) (hl : fv.length = first.length) (hc : cv.length = cap.length)
      (hf : ∀ (j : Nat) (c : AV) (v : Value), first[j]? = some c → fv[j]? = some v → RepP w ok c v)
      (hg : ∀ (j : Nat) (c : AV) (v : Value), cap[j]? = some c → cv[j]? = some v → RepP w ok c v) : RepP w ok (.fn f first cap) (.func (.func f) fv.toArray cv.toArray)
  | agg (cs : List AV) (cv : List Value) (hl : cv.length = cs.length) (h1 : ∀ v, v ∈ cv → v.oneCell' = true)
      (hv : ∀ (j : Nat) (c : AV) (v : Value), cs[j]? = some c → cv[j]? = some v → RepP w ok c v) : RepP w ok (.agg cs) (.agg cv.toArray)
  | tup (cs : List AV) (cv : List Value) (hl : cv.length = cs.length)
      (hv : ∀ (j : Nat) (c : AV) (v : Value), cs[j]? = some c → cv[j]? = some v → RepP w ok c v) : RepP w ok (.tup cs) (.tuple cv.toArray)

structure Env where
  w : World
  ok : Nat → Prop
  loc : Nat → Option (Nat × Nat × Nat)
  al : Nat → Prop

/-- An abstract value and what the machine holds. -/
inductive Rep (E : Env) : AV → Value → Prop
  | pure {a : AV} {v : Value} (h : RepP E.w E.ok a v) : Rep E a v
  | ownNil (id : Nat) (ha : E.al id) (hl : E.loc id = none) : Rep E (.own id 0 0) (.slice none 0 0)
  | own (id off len b o z cap : Nat) (ha : E.al id) (hl : E.loc id = some (b, o, z)) (hc : len ≤ cap)
      (hs : ∃ (c : Array Value) (t : TypeId) (f : Nat × Nat), E.w.heap[b]? = some (.cells c t f) ∧ o + (off + cap) * z ≤ c.size) :
      Rep E (.own id off len) (.slice (some ⟨b, o + off * z, none⟩) len cap)
  | ptr (id i j b o z : Nat) (ha : E.al id) (hl : E.loc id = some (b, o, z)) : Rep E (.ptr id i j) (.pointer (some ⟨b, o + i * z + j, none⟩))
  | fn (f : FuncId) (first cap : List AV) (fv cv : List Value) (hl : fv.length = first.length) (hc : cv.length = cap.length)
      (hf : ∀ (j : Nat) (c : AV) (v : Value), first[j]? = some c → fv[j]? = some v → Rep E c v)
      (hg : ∀ (j : Nat) (c : AV) (v : Value), cap[j]? = some c → cv[j]? = some v → Rep E c v) : Rep E (.fn f first cap) (.func (.func f) fv.toArray cv.toArray)
  | agg (cs : List AV) (cv : List Value) (hl : cv.length = cs.length) (h1 : ∀ v, v ∈ cv → v.oneCell' = true)
      (hv : ∀ (j : Nat) (c : AV) (v : Value), cs[j]? = some c → cv[j]? = some v → Rep E c v) : Rep E (.agg cs) (.agg cv.toArray)
  | tup (cs : List AV) (cv : List Value) (hl : cv.length = cs.length)
      (hv : ∀ (j : Nat) (c : AV) (v : Value), cs[j]? = some c → cv[j]? = some v → Rep E c v) : Rep E (.tup cs) (.tuple cv.toArray)

/-- The cells of a row, from o on. -/
def Cells (w : World) (ok : Nat → Prop) (c : Array Value) (o sz : Nat) (xs : List (List AV)) : Prop :=
  ∀ (i : Nat) (cs : List AV), xs[i]? = some cs → cs.length = sz ∧ ∀ (j : Nat) (a : AV), cs[j]? = some a → ∃ x, c[o + i * sz + j]? = some x ∧ x.oneCell' = true ∧ RepP w ok a x

def ArrRel (E : Env) (base : Nat) (id : Nat) : Arr → Prop
  | .dead => True
  | .row sz xs =>
    match E.loc id with
    | none => xs = []
    | some (b, o, z) => ∃ c t, E.w.heap[b]? = some (.cells c t (0, 0)) ∧ base ≤ b ∧ ¬ E.ok b ∧ o + xs.length * z ≤ c.size ∧ z = sz ∧ Cells E.w E.ok c o sz xs
  | .frz sz xs =>
    match E.loc id with
    | none => xs = []
    | some (b, o, z) => ∃ c t, E.w.heap[b]? = some (.cells c t (0, 0)) ∧ base ≤ b ∧ E.ok b ∧ o + xs.length * z ≤ c.size ∧ z = sz ∧ Cells E.w E.ok c o sz xs
  | .box cs => ∃ b c t, E.loc id = some (b, 0, 0) ∧ E.w.heap[b]? = some (.cells c t (0, 0)) ∧ base ≤ b ∧ ¬ E.ok b ∧ c.size = cs.length ∧
      ∀ (j : Nat) (a : AV), cs[j]? = some a → ∃ x, c[j]? = some x ∧ x.oneCell' = true ∧ Rep E a x

def Arr.isMut : Arr → Bool
  | .row _ _ | .box _ => true
  | _ => false

structure MemRel (E : Env) (base : Nat) (mem : List (Nat × Arr)) : Prop where
  arr : ∀ id arr, get mem id = some arr → E.al id ∧ ArrRel E base id arr
  far : ∀ id id' arr arr' b o z o' z', get mem id = some arr → get mem id' = some arr' → arr.isMut = true → arr'.isMut = true →
    E.loc id = some (b, o, z) → E.loc id' = some (b, o', z') → id = id'

/-- What is common to all states of an activation. -/
structure Frm (E : Env) (w0 : World) (okb : Nat → Prop) : Prop where
  below : Below w0.heap.size w0 E.w
  okb : ∀ b, b < w0.heap.size → E.ok b → okb b
  lt : ∀ b, E.ok b → b < E.w.heap.size

def TmRel (E : Env) (tm : List (Nat × AV)) (a : Act) : Prop := ∀ t v, get tm t = some v → ∃ x, a.tmps[t]? = some x ∧ Rep E v x

def GoodE (E : Env) (n : Nat) (w0 : World) (okb : Nat → Prop) (s : AS) (a : Act) : Prop :=
  Frm E w0 okb ∧ a.defers = [] ∧ a.tmps.size = n ∧ TmRel E s.tm a ∧ MemRel E w0.heap.size s.mem

def Good (n : Nat) (w0 : World) (okb : Nat → Prop) (s : AS) (a : Act) (w : World) : Prop :=
  ∃ E, E.w = w ∧ (∀ id, E.al id → id < s.nx) ∧ GoodE E n w0 okb s a

/-- s' says no more than s. -/
def Weak (s s' : AS) : Prop := ∀ n w0 okb a w, Good n w0 okb s a w → Good n w0 okb s' a w

/-- An argument, as a callee gets it. -/
inductive ArgTo (mem : List (Nat × Arr)) : AV → AV → Prop
  | same {a : AV} (h : owns a = false) : ArgTo mem a a
  | nil (sz : Nat) : ArgTo mem .nil (.sl sz [])
  | row {id off len sz : Nat} {xs : List (List AV)} (h : get mem id = some (.row sz xs)) (hl : off + len ≤ xs.length) : ArgTo mem (.own id off len) (.sl sz ((xs.drop off).take len))
  | frz {id off len sz : Nat} {xs : List (List AV)} (h : get mem id = some (.frz sz xs)) (hl : off + len ≤ xs.length) : ArgTo mem (.own id off len) (.sl sz ((xs.drop off).take len))
  | empty {id off : Nat} {sz sz' : Nat} {xs : List (List AV)} (h : get mem id = some (.row sz xs)) : ArgTo mem (.own id off 0) (.sl sz' [])
  | box {id j : Nat} {cs cs' : List AV} (h : get mem id = some (.box cs)) (hl : cs'.length = (cs.drop j).length)
      (hv : ∀ (q : Nat) (c c' : AV), (cs.drop j)[q]? = some c → cs'[q]? = some c' → ArgTo mem c c') : ArgTo mem (.ptr id 0 j) (.ref cs')
  | fn {f : FuncId} {x y x' y' : List AV} (hx : x'.length = x.length) (hy : y'.length = y.length)
      (h1 : ∀ (q : Nat) (c c' : AV), x[q]? = some c → x'[q]? = some c' → ArgTo mem c c')
      (h2 : ∀ (q : Nat) (c c' : AV), y[q]? = some c → y'[q]? = some c' → ArgTo mem c c') : ArgTo mem (.fn f x y) (.fn f x' y')
  | agg {x x' : List AV} (hx : x'.length = x.length)
      (h1 : ∀ (q : Nat) (c c' : AV), x[q]? = some c → x'[q]? = some c' → ArgTo mem c c') : ArgTo mem (.agg x) (.agg x')

def ArgsTo (mem : List (Nat × Arr)) : List AV → List AV → Prop
  | [], [] => True
  | a :: r, a' :: r' => ArgTo mem a a' ∧ ArgsTo mem r r'
  | _, _ => False

/-- A value that is handed back: what it becomes; the rows handed over whole; the rows that are read from then on. -/
inductive RetTo (mem : List (Nat × Arr)) : AV → AV → List Nat → List Nat → Prop
  | same {a : AV} (h : owns a = false) : RetTo mem a a [] []
  | nil (sz : Nat) : RetTo mem .nil (.sl sz []) [] []
  | nilF (sz : Nat) : RetTo mem .nil (.fr sz []) [] []
  | fr {id off len sz : Nat} {xs : List (List AV)} (h : get mem id = some (.row sz xs)) (hl : off + len ≤ xs.length) : RetTo mem (.own id off len) (.fr sz ((xs.drop off).take len)) [id] []
  | sl {id off len sz : Nat} {xs : List (List AV)} (h : get mem id = some (.row sz xs)) (hl : off + len ≤ xs.length) : RetTo mem (.own id off len) (.sl sz ((xs.drop off).take len)) [] [id]
  | frz {id off len sz : Nat} {xs : List (List AV)} (h : get mem id = some (.frz sz xs)) (hl : off + len ≤ xs.length) : RetTo mem (.own id off len) (.sl sz ((xs.drop off).take len)) [] []

inductive RetsTo (mem : List (Nat × Arr)) : List AV → List AV → List Nat → List Nat → Prop
  | nil : RetsTo mem [] [] [] []
  | cons {a a' : AV} {r r' : List AV} {x y x' y' : List Nat} (h : RetTo mem a a' x y) (hr : RetsTo mem r r' x' y') : RetsTo mem (a :: r) (a' :: r') (x ++ x') (y ++ y')
  | aggs {cs cs' r r' : List AV} {x y x' y' : List Nat} (h : RetsTo mem cs cs' x y) (hr : RetsTo mem r r' x' y') : RetsTo mem (.agg cs :: r) (.agg cs' :: r') (x ++ x') (y ++ y')

abbrev CallRel := FuncId → List AV → AV → Prop

/-- The rows that a call's arguments are made of, frozen. -/
def frzC (mem : List (Nat × Arr)) : List AV → Option (List (Nat × Arr))
  | [] => some []
  | .own id _ _ :: r =>
    match get mem id, frzC mem r with
    | some (.row sz xs), some d => some ((id, .frz sz xs) :: d)
    | some (.frz _ _), some d => some d
    | _, _ => none
  | a :: r => if owns a then none else frzC mem r
/-- Arguments, a struct by its cells. -/
def flatA : List AV → List AV
  | [] => []
  | .agg cs :: r => cs ++ flatA r
  | a :: r => a :: flatA r
def frzOf (mem : List (Nat × Arr)) (as : List AV) : Option (List (Nat × Arr)) := frzC mem (flatA as)

def optK {α : Type} (x : Option α) (K : α → Prop) : Prop := match x with | some a => K a | none => False
def Br (b : Bool) (A B : Prop) : Prop := if b = true then A else B

/-- What a call in place leaves of a row. -/
def mutRes (s : AS) (id off len sz : Nat) (xs ys : List (List AV)) : Res := ⟨.tup [], [(id, .row sz (xs.take off ++ ys ++ xs.drop (off + len)))], s.nx, [id]⟩
/-- A call that works in place on a row of the caller's own: it is known by '.fr' for '.fr'. -/
def amut (R : CallRel) (s : AS) (g : FuncId) (as : List AV) (K : Res → Prop) : Prop :=
  ∃ id off len sz xs ys, as = [.own id off len] ∧ get s.mem id = some (.row sz xs) ∧ off + len ≤ xs.length ∧ (0 < len ∧ len ≤ 9223372036854775807) ∧ R g [.fr sz ((xs.drop off).take len)] (.fr sz ys) ∧ K (mutRes s id off len sz xs ys)
/-- A call: out of what it is known to hand back. -/
def acall (R : CallRel) (s : AS) (g : FuncId) (as : List AV) (K : Res → Prop) : Prop :=
  (∃ as' r, ArgsTo s.mem as as' ∧ R g as' r ∧
    match noref r, frzOf s.mem as with
    | true, _ => K ⟨r, [], s.nx, if as.any owns then s.mem.map (·.1) else []⟩
    | false, some z => K ⟨(imp s.nx r).1, (imp s.nx r).2.1 ++ z, (imp s.nx r).2.2, if as.any owns then s.mem.map (·.1) else []⟩
    | false, none => False) ∨ amut R s g as K
def isFr : AV → Bool
  | .fr _ _ => true
  | _ => false

def callee (s : AS) (c : Call) : Option (FuncId × List AV) :=
  match c.callee with
  | .value f =>
    match opr s f, oprs s c.args.toList with
    | some (.fn g first cap), some as => some (g, first ++ as ++ cap)
    | _, _ => none
  | _ => none

def aop (P : Program) (R : CallRel) (o : Oper) (s : AS) (K : Res → Prop) : Prop :=
  match o.op with
  | .call ⟨.value f, args, ts⟩ => optK (callee s ⟨.value f, args, ts⟩) fun x => acall R s x.1 x.2 K
  | _ => optK (ev P o s) K

def guardVal (ops : Array Oper) (s : AS) (j : Nat) : Option (Option Bool) :=
  match (ops[j]?).bind (·.dst) with
  | some d => match get s.tm d with
    | some (.sc (.bool b)) => some (some b)
    | some (.sc (.tuple _)) => some none
    | _ => none
  | none => none

abbrev Log := List (List Nat × List Nat)

def awops (P : Program) (R : CallRel) (all : Array Oper) : List Oper → AS → Log → (AS → Log → Prop) → Prop
  | [], s, lg, K => K s lg
  | o :: rest, s, lg, K =>
    match o.guard with
    | none => aop P R o s fun r => awops P R all rest (s.put o.dst r) ((r.rd, r.d.map (·.1)) :: lg) K
    | some (j, want) => optK (guardVal all s j) fun b =>
        Br (b == some want) (aop P R o s fun r => awops P R all rest (s.put o.dst r) ((r.rd, r.d.map (·.1)) :: lg) K)
          (awops P R all rest (s.junk o.dst) (([], []) :: lg) K)

/-- No two operations that may come in either order touch one row. (The log is in reverse.) -/
def clash (x y : List Nat × List Nat) : Bool :=
  x.2.any (fun i => y.1.contains i || y.2.contains i) || y.2.any (fun i => x.1.contains i)
def noConf (b : Array Nat) (lg : Log) : Bool :=
  let l := lg.reverse.zipIdx
  l.all fun (x, i) => l.all fun (y, j) => !(decide (i < j)) || (b.getD j 0).testBit i || !clash x y
/-- What an operation names. -/
def tmpsOk (ops : Array Oper) : Bool :=
  let b := Region.before ops
  ops.toList.zipIdx.all fun (x, i) => ops.toList.zipIdx.all fun (y, j) => !(decide (i < j)) || (b.getD j 0).testBit i || x.apart ops y

inductive Ex where
  | normal
  | exit (id : Nat)
  | ret
def Ex.then (A : AS → Prop) (Q : Ex → AS → Prop) : Ex → AS → Prop
  | .normal, s => A s
  | e, s => Q e s
def Ex.inBlock (id : Nat) (Q : Ex → AS → Prop) : Ex → AS → Prop
  | .exit i, s => Br (i == id) (Q .normal s) (Q (.exit i) s)
  | e, s => Q e s

def condVal (s : AS) (c : Operand) : Option Bool :=
  match opr s c with
  | some (.sc (.bool t)) => some t
  | _ => none

/-- An operation waits for earlier ones only. -/
def ordOk (ops : Array Oper) : Bool := ops.toList.zipIdx.all fun (o, j) => o.after.all fun e => !Region.binds .any e || decide (e.on < j)
/-- The facts on a region that may come in any order. -/
def DrawOk (ops : Array Oper) (lg : Log) : Prop := ordOk ops = true ∧ tmpsOk ops = true ∧ noConf (Region.before ops) lg = true

def awp (P : Program) (R : CallRel) : Code → (Ex → AS → Prop) → AS → Prop
  | .skip, Q, s => Q .normal s
  | .region _ ops false, Q, s => awops P R ops ops.toList s [] fun s' _ => Q .normal s'
  | .region _ ops true, Q, s => awops P R ops ops.toList s [] fun s' lg => DrawOk ops lg ∧ Q .normal s'
  | .seq x y, Q, s => awp P R x (Ex.then (awp P R y Q) Q) s
  | .cond c x y, Q, s => optK (condVal s c) fun t => Br t (awp P R x Q s) (awp P R y Q s)
  | .block id x, Q, s => awp P R x (Ex.inBlock id Q) s
  | .loop x, Q, s => ∀ I : AS → Prop, (∀ s s', Weak s s' → awp P R x (Ex.then I Q) s' → I s) → I s
  | .exit i, Q, s => Q (.exit i) s
  | .ret, Q, s => Q .ret s
  | _, _, _ => False

def resVar (P : Program) (s : AS) : ResultVar → Option AV
  | .tmp t => get s.tm t
  | .cell a t => match get s.tm a with
    | some p => match tsz P t, behind s p with
      | some z, some (cs, _) => part z cs
      | _, _ => none
    | none => none
def resVars (P : Program) (s : AS) : List ResultVar → Option (List AV)
  | [] => some []
  | x :: r => match resVar P s x, resVars P s r with
    | some v, some vs => some (v :: vs)
    | _, _ => none

/-- A value that is handed back: K takes the rows that are given away. -/
def retC (mem : List (Nat × Arr)) (a a' : AV) (used : List Nat) (K : List Nat → Prop) : Prop :=
  match a, a' with
  | .own id off len, .fr sz xs => (match get mem id with
    | some (.row sz' ys) => sz = sz' ∧ off + len ≤ ys.length ∧ xs = (ys.drop off).take len ∧ used.contains id = false ∧ K (id :: used)
    | _ => False)
  | .own id off len, .sl sz xs => (match get mem id with
    | some (.row sz' ys) => sz = sz' ∧ off + len ≤ ys.length ∧ xs = (ys.drop off).take len ∧ used.contains id = false ∧ K (id :: used)
    | some (.frz sz' ys) => sz = sz' ∧ off + len ≤ ys.length ∧ xs = (ys.drop off).take len ∧ K used
    | _ => False)
  | .nil, .sl _ xs => xs = [] ∧ K used
  | .nil, .fr _ xs => xs = [] ∧ K used
  | a, a' => a = a' ∧ owns a = false ∧ K used
def retCs (mem : List (Nat × Arr)) : List AV → List AV → List Nat → (List Nat → Prop) → Prop
  | [], [], used, K => K used
  | a :: r, a' :: r', used, K => retC mem a a' used fun u => retCs mem r r' u K
  | _, _, _, _ => False
def retTs (mem : List (Nat × Arr)) : List AV → List AV → List Nat → (List Nat → Prop) → Prop
  | [], [], used, K => K used
  | .agg cs :: r, .agg cs' :: r', used, K => retCs mem cs cs' used fun u => retTs mem r r' u K
  | a :: r, a' :: r', used, K => retC mem a a' used fun u => retTs mem r r' u K
  | _, _, _, _ => False
def unpack (vs : List AV) (r : AV) : List AV := match vs, r with
  | [_], r => [r]
  | _, .tup rs => rs
  | _, _ => []

def packs (vs : List AV) (r : AV) : Bool := match vs, r with
  | [_], _ => true
  | _, .tup _ => true
  | _, _ => false
/-- The results of a function, as the caller is told them. -/
def retPost (P : Program) (rv : Array ResultVar) (r : AV) (e : Ex) (s : AS) : Prop :=
  match e with
  | .exit _ => False
  | _ => optK (resVars P s rv.toList) fun vs => retTs s.mem vs (unpack vs r) [] fun _ => packs vs r = true

def dstsOk (n : Nat) : Code → Bool
  | .region _ ops _ => ops.all fun o => match o.dst with | some d => decide (d < n) | none => true
  | .seq x y | .cond _ x y => dstsOk n x && dstsOk n y
  | .block _ x | .loop x => dstsOk n x
  | _ => true
def number : Nat → List AV → List (Nat × AV)
  | _, [] => []
  | n, v :: r => (n, v) :: number (n + 1) r
def init (as : List AV) : AS := ⟨number 0 as, [], 0⟩

/-- A function's body hands back r. -/
def Body (P : Program) (R : CallRel) (f : FuncId) (as : List AV) (r : AV) : Prop :=
  ∃ fn c, P.funcs[f]? = some fn ∧ fn.body = some c ∧ (fn.name == "runtime.NumGoroutine") = false ∧ as.length ≤ fn.ntmps ∧ dstsOk fn.ntmps c = true ∧ as.any isFr = false ∧ awp P R c (retPost P fn.results r) (init as)

/-- f hands back r. X: what is known of functions from elsewhere. -/
def Ret (P : Program) (X : CallRel) (f : FuncId) (as : List AV) (r : AV) : Prop :=
  ∀ R : CallRel, (∀ f as r, X f as r → R f as r) → (∀ f as r, Body P R f as r → R f as r) → R f as r
end Go.Ab
end

section
namespace Go.Ab

theorem optK_mono {α : Type} {x : Option α} {K K' : α → Prop} (hK : ∀ a, K a → K' a) (H : optK x K) : optK x K' := by
  cases x with
  | none => exact H
  | some a => exact hK a H
theorem Br_mono {b : Bool} {A B A' B' : Prop} (hA : A → A') (hB : B → B') (H : Br b A B) : Br b A' B' := by
  cases b with
  | true => exact hA H
  | false => exact hB H

theorem aop_mono {P : Program} {R R' : CallRel} (h : ∀ f as r, R f as r → R' f as r) {o : Oper} {s : AS} {K K' : Res → Prop} (hK : ∀ r, K r → K' r) :
    aop P R o s K → aop P R' o s K' := by
  unfold aop
  intro H
  split at H
  · refine optK_mono (fun x H => ?_) H
    rcases H with ⟨as', r, h1, h2, h3⟩ | ⟨id, off, len, sz, xs, ys, h1, h2, h3, h4, h5, h6⟩
    · refine .inl ⟨as', r, h1, h _ _ _ h2, ?_⟩
      split at h3 <;> first | exact hK _ h3 | exact h3
    · exact .inr ⟨id, off, len, sz, xs, ys, h1, h2, h3, h4, h _ _ _ h5, hK _ h6⟩
  · exact optK_mono hK H

theorem awops_mono {P : Program} {R R' : CallRel} (h : ∀ f as r, R f as r → R' f as r) (all : Array Oper) {K K' : AS → Log → Prop} (hK : ∀ s l, K s l → K' s l) :
    ∀ (l : List Oper) (s : AS) (lg : Log), awops P R all l s lg K → awops P R' all l s lg K'
  | [], s, lg, H => hK _ _ H
  | o :: rest, s, lg, H => by
    unfold awops at H ⊢
    split at H
    · exact aop_mono h (fun r => awops_mono h all hK rest _ _) H
    · exact optK_mono (fun b => Br_mono (aop_mono h (fun r => awops_mono h all hK rest _ _)) (awops_mono h all hK rest _ _)) H

theorem then_mono {A A' : AS → Prop} {Q Q' : Ex → AS → Prop} (hA : ∀ s, A s → A' s) (hQ : ∀ e s, Q e s → Q' e s) (e : Ex) (s : AS) (H : Ex.then A Q e s) : Ex.then A' Q' e s := by
  cases e with
  | normal => exact hA _ H
  | exit i => exact hQ _ _ H
  | ret => exact hQ _ _ H
theorem inBlock_mono {id : Nat} {Q Q' : Ex → AS → Prop} (hQ : ∀ e s, Q e s → Q' e s) (e : Ex) (s : AS) (H : Ex.inBlock id Q e s) : Ex.inBlock id Q' e s := by
  cases e with
  | normal => exact hQ _ _ H
  | exit i => exact Br_mono (hQ _ _) (hQ _ _) H
  | ret => exact hQ _ _ H

theorem awp_mono {P : Program} {R R' : CallRel} (h : ∀ f as r, R f as r → R' f as r) : ∀ (c : Code) (Q Q' : Ex → AS → Prop) (s : AS), (∀ e s, Q e s → Q' e s) →
    awp P R c Q s → awp P R' c Q' s
  | .skip, Q, Q', s, hq, H => hq _ _ H
  | .region _ ops false, Q, Q', s, hq, H => awops_mono h ops (fun s l hh => hq _ _ hh) _ _ _ H
  | .region _ ops true, Q, Q', s, hq, H => awops_mono h ops (fun s l hh => ⟨hh.1, hq _ _ hh.2⟩) _ _ _ H
  | .seq x y, Q, Q', s, hq, H => awp_mono h x _ _ s (then_mono (fun s' => awp_mono h y _ _ s' hq) hq) H
  | .cond c x y, Q, Q', s, hq, H => optK_mono (fun t => Br_mono (awp_mono h x _ _ s hq) (awp_mono h y _ _ s hq)) H
  | .block id x, Q, Q', s, hq, H => awp_mono h x _ _ s (inBlock_mono hq) H
  | .loop x, Q, Q', s, hq, H => by
    intro I hI
    exact H I fun s1 s2 hw hh => hI s1 s2 hw (awp_mono h x _ _ s2 (then_mono (fun _ h => h) hq) hh)
  | .exit i, Q, Q', s, hq, H => hq _ _ H
  | .ret, Q, Q', s, hq, H => hq _ _ H
  | .rangeFunc .., Q, Q', s, hq, H => H.elim
  | .scope _, Q, Q', s, hq, H => H.elim
  | .label _, Q, Q', s, hq, H => H.elim
  | .goto _, Q, Q', s, hq, H => H.elim
  | .refuse _, Q, Q', s, hq, H => H.elim

theorem Ret.ext {P : Program} {X : CallRel} {f : FuncId} {as : List AV} {r : AV} (h : X f as r) : Ret P X f as r := fun _ hX _ => hX _ _ _ h

theorem Ret.of_body {P : Program} {X : CallRel} {f : FuncId} {as : List AV} {r : AV} {fn : Func} {c : Code} (hf : P.funcs[f]? = some fn) (hb : fn.body = some c)
    (hm : (fn.name == "runtime.NumGoroutine") = false) (hn : (Nat.ble as.length fn.ntmps && !as.any isFr) = true) (hd : dstsOk fn.ntmps c = true) (h : awp P (Ret P X) c (retPost P fn.results r) (init as)) : Ret P X f as r := by
  intro R hX hR
  simp only [Bool.and_eq_true, Bool.not_eq_true'] at hn
  exact hR _ _ _ ⟨fn, c, hf, hb, hm, Nat.le_of_ble_eq_true hn.1, hd, hn.2, awp_mono (fun f as r hr => hr R hX hR) c _ _ _ (fun _ _ h => h) h⟩

theorem awp_loop {P : Program} {R : CallRel} {c : Code} {Q : Ex → AS → Prop} {s : AS} (s' : AS) (hw : Weak s s')
    (h : awp P R c (Ex.then (awp P R (.loop c) Q) Q) s') : awp P R (.loop c) Q s := by
  intro I hI
  exact hI s s' hw (awp_mono (fun _ _ _ h => h) c _ _ s' (then_mono (fun s hh => hh I hI) (fun _ _ h => h)) h)

/-! How simp runs code: what follows is not looked into. -/
@[congr] theorem optK_congr {α : Type} {x x' : Option α} {K : α → Prop} (h : x = x') : optK x K = optK x' K := by rw [h]
@[congr] theorem Br_congr {b b' : Bool} {A B : Prop} (h : b = b') : Br b A B = Br b' A B := by rw [h]
@[congr] theorem acall_congr {R : CallRel} {s s' : AS} {g g' : FuncId} {as as' : List AV} {K : Res → Prop} (h1 : s = s') (h2 : g = g') (h3 : as = as') : acall R s g as K = acall R s' g' as' K := by rw [h1, h2, h3]
@[congr] theorem awops_congr {P : Program} {R : CallRel} {all : Array Oper} {l : List Oper} {s s' : AS} {lg lg' : Log} {K : AS → Log → Prop} (h1 : s = s') (h2 : lg = lg') : awops P R all l s lg K = awops P R all l s' lg' K := by rw [h1, h2]
@[congr] theorem aop_congr {P : Program} {R : CallRel} {o : Oper} {s s' : AS} {K : Res → Prop} (h1 : s = s') : aop P R o s K = aop P R o s' K := by rw [h1]
@[congr] theorem awp_congr {P : Program} {R : CallRel} {c : Code} {s s' : AS} {Q : Ex → AS → Prop} (h1 : s = s') : awp P R c Q s = awp P R c Q s' := by rw [h1]
@[congr] theorem then_congr {A : AS → Prop} {Q : Ex → AS → Prop} {e : Ex} {s s' : AS} (h1 : s = s') : Ex.then A Q e s = Ex.then A Q e s' := by rw [h1]
@[congr] theorem inBlock_congr {i : Nat} {Q : Ex → AS → Prop} {e : Ex} {s s' : AS} (h1 : s = s') : Ex.inBlock i Q e s = Ex.inBlock i Q e s' := by rw [h1]
@[congr] theorem retPost_congr {P : Program} {rv : Array ResultVar} {r : AV} {e : Ex} {s s' : AS} (h1 : s = s') : retPost P rv r e s = retPost P rv r e s' := by rw [h1]
@[congr] theorem DrawOk_congr {ops : Array Oper} {lg lg' : Log} (h1 : lg = lg') : DrawOk ops lg = DrawOk ops lg' := by rw [h1]

@[simp] theorem optK_some {α : Type} (a : α) (K : α → Prop) : optK (some a) K = K a := propext Iff.rfl
@[simp] theorem Br_true (A B : Prop) : Br true A B = A := propext Iff.rfl
@[simp] theorem Br_false (A B : Prop) : Br false A B = B := propext Iff.rfl
theorem Br.intro {b : Bool} {A B : Prop} (hA : b = true → A) (hB : b = false → B) : Br b A B := by
  cases b with
  | true => exact hA rfl
  | false => exact hB rfl
@[simp] theorem then_normal (A : AS → Prop) (Q : Ex → AS → Prop) (s : AS) : Ex.then A Q .normal s = A s := propext Iff.rfl
@[simp] theorem then_exit (A : AS → Prop) (Q : Ex → AS → Prop) (i : Nat) (s : AS) : Ex.then A Q (.exit i) s = Q (.exit i) s := propext Iff.rfl
@[simp] theorem then_ret (A : AS → Prop) (Q : Ex → AS → Prop) (s : AS) : Ex.then A Q .ret s = Q .ret s := propext Iff.rfl
@[simp] theorem inBlock_normal (i : Nat) (Q : Ex → AS → Prop) (s : AS) : Ex.inBlock i Q .normal s = Q .normal s := propext Iff.rfl
@[simp] theorem inBlock_exit (i j : Nat) (Q : Ex → AS → Prop) (s : AS) : Ex.inBlock i Q (.exit j) s = Br (j == i) (Q .normal s) (Q (.exit j) s) := propext Iff.rfl
@[simp] theorem inBlock_ret (i : Nat) (Q : Ex → AS → Prop) (s : AS) : Ex.inBlock i Q .ret s = Q .ret s := propext Iff.rfl
@[simp] theorem awp_skip (P : Program) (R : CallRel) (Q : Ex → AS → Prop) (s : AS) : awp P R .skip Q s = Q .normal s := propext Iff.rfl
@[simp] theorem awp_region (P : Program) (R : CallRel) (i : Nat) (ops : Array Oper) (Q : Ex → AS → Prop) (s : AS) : awp P R (.region i ops false) Q s = awops P R ops ops.toList s [] fun s' _ => Q .normal s' := propext Iff.rfl
@[simp] theorem awp_draw (P : Program) (R : CallRel) (i : Nat) (ops : Array Oper) (Q : Ex → AS → Prop) (s : AS) : awp P R (.region i ops true) Q s = awops P R ops ops.toList s [] fun s' lg => DrawOk ops lg ∧ Q .normal s' := propext Iff.rfl
@[simp] theorem awp_seq (P : Program) (R : CallRel) (x y : Code) (Q : Ex → AS → Prop) (s : AS) : awp P R (.seq x y) Q s = awp P R x (Ex.then (awp P R y Q) Q) s := propext Iff.rfl
@[simp] theorem awp_cond (P : Program) (R : CallRel) (c : Operand) (x y : Code) (Q : Ex → AS → Prop) (s : AS) : awp P R (.cond c x y) Q s = optK (condVal s c) fun t => Br t (awp P R x Q s) (awp P R y Q s) := propext Iff.rfl
@[simp] theorem awp_block (P : Program) (R : CallRel) (i : Nat) (x : Code) (Q : Ex → AS → Prop) (s : AS) : awp P R (.block i x) Q s = awp P R x (Ex.inBlock i Q) s := propext Iff.rfl
@[simp] theorem awp_exit (P : Program) (R : CallRel) (i : Nat) (Q : Ex → AS → Prop) (s : AS) : awp P R (.exit i) Q s = Q (.exit i) s := propext Iff.rfl
@[simp] theorem awp_ret (P : Program) (R : CallRel) (Q : Ex → AS → Prop) (s : AS) : awp P R .ret Q s = Q .ret s := propext Iff.rfl

section
variable (P : Program) (R : CallRel) (d : Option Tmp) (ty : TypeId) (pos : String) (af : Array Edge) (g : Option (Nat × Bool)) (s : AS) (K : Res → Prop)
@[simp] theorem aop_move (x : Operand) : aop P R ⟨d, .move x, ty, pos, af, g⟩ s K = optK (opr s x) fun v => K ⟨v, [], s.nx, []⟩ := by
  simp only [aop, ev]; cases opr s x <;> rfl
@[simp] theorem aop_assign (x : Operand) : aop P R ⟨d, .assign x, ty, pos, af, g⟩ s K = optK (opr s x) fun v => K ⟨v, [], s.nx, []⟩ := by
  simp only [aop, ev]; cases opr s x <;> rfl
@[simp] theorem aop_pick (c x y : Operand) : aop P R ⟨d, .pick c x y, ty, pos, af, g⟩ s K = optK (condVal s c) fun t => Br t (optK (opr s x) fun v => K ⟨v, [], s.nx, []⟩) (optK (opr s y) fun v => K ⟨v, [], s.nx, []⟩) := by
  simp only [aop, ev, condVal]
  rcases opr s c with _ | v
  · rfl
  · rcases v with _ | v | _ | _ | _ | _ | _ | _ | _ | _ | _ <;> try rfl
    cases v with
    | bool t => cases t <;> simp only [optK, Br, Bool.false_eq_true, if_false, if_true] <;> first | (cases opr s y <;> rfl) | (cases opr s x <;> rfl)
    | _ => rfl
@[simp] theorem aop_alloc (t : TypeId) : aop P R ⟨d, .alloc t, ty, pos, af, g⟩ s K = optK (allocE P s t) K := propext Iff.rfl
@[simp] theorem aop_box (t : TypeId) (x : Operand) : aop P R ⟨d, .box t x, ty, pos, af, g⟩ s K = optK (opr s x) fun v => optK (boxE s v) K := by
  simp only [aop, ev]; cases opr s x <;> rfl
@[simp] theorem aop_build (t : TypeId) (ps : Array (Nat × Operand)) : aop P R ⟨d, .build t ps, ty, pos, af, g⟩ s K = optK (oprs2 s ps.toList) fun v => optK (buildE P s t v) K := by
  simp only [aop, ev]; cases oprs2 s ps.toList <;> rfl
@[simp] theorem aop_buildSlice (t : TypeId) (n : Nat) (ps : Array (Nat × Operand)) : aop P R ⟨d, .buildSlice t n ps, ty, pos, af, g⟩ s K = optK (oprs2 s ps.toList) fun v => optK (buildSliceE P s t n v) K := by
  simp only [aop, ev]; cases oprs2 s ps.toList <;> rfl
@[simp] theorem aop_load (t : TypeId) (p : Operand) : aop P R ⟨d, .load t p, ty, pos, af, g⟩ s K = optK (opr s p) fun v => optK (loadE P s t v) K := by
  simp only [aop, ev]; cases opr s p <;> rfl
@[simp] theorem aop_store (t : TypeId) (p x : Operand) : aop P R ⟨d, .store t p x, ty, pos, af, g⟩ s K = optK (opr s p) fun p => optK (opr s x) fun v => optK (storeE P s t p v) K := by
  simp only [aop, ev]; cases opr s p <;> cases opr s x <;> rfl
def nilE (s : AS) : AV → Option Res
  | .ptr id i j => some ⟨.ptr id i j, [], s.nx, []⟩
  | .ref cs => some ⟨.ref cs, [], s.nx, []⟩
  | .fn f a b => some ⟨.fn f a b, [], s.nx, []⟩
  | _ => none
@[simp] theorem aop_nilCheck (x : Operand) : aop P R ⟨d, .nilCheck x, ty, pos, af, g⟩ s K = optK (opr s x) fun v => optK (nilE s v) K := by
  simp only [aop, ev]; cases opr s x with
  | none => rfl
  | some v => cases v <;> rfl
@[simp] theorem aop_binOp (op : BinOp) (t u : TypeId) (x y : Operand) : aop P R ⟨d, .binOp op t x y u, ty, pos, af, g⟩ s K = optK (opr s x) fun a => optK (opr s y) fun b => optK (bin P op t a b) fun v => K ⟨v, [], s.nx, []⟩ := by
  simp only [aop, ev]; rcases opr s x with _ | a <;> rcases opr s y with _ | b <;> first | rfl | (simp only [optK]; cases bin P op t a b <;> rfl)
@[simp] theorem aop_unOp (op : UnOp) (t : TypeId) (x : Operand) : aop P R ⟨d, .unOp op t x, ty, pos, af, g⟩ s K = optK (opr s x) fun a => optK (un op a) fun v => K ⟨v, [], s.nx, []⟩ := by
  simp only [aop, ev]; rcases opr s x with _ | a <;> first | rfl | (simp only [optK]; cases un op a <;> rfl)
@[simp] theorem aop_convert (t u : TypeId) (x : Operand) : aop P R ⟨d, .convert t u x, ty, pos, af, g⟩ s K = optK (opr s x) fun a => optK (convE P s t u a) K := by
  simp only [aop, ev]; cases opr s x <;> rfl
@[simp] theorem aop_makeFunc (f : FuncId) (x y : Array Operand) : aop P R ⟨d, .makeFunc (.func f) x y, ty, pos, af, g⟩ s K = optK (oprs s x.toList) fun a => optK (oprs s y.toList) fun b => K ⟨.fn f a b, [], s.nx, []⟩ := by
  simp only [aop, ev]; cases oprs s x.toList <;> cases oprs s y.toList <;> rfl
@[simp] theorem aop_makeSlice (t : TypeId) (x y : Operand) : aop P R ⟨d, .makeSlice t x y, ty, pos, af, g⟩ s K = optK (opr s x) fun a => optK (opr s y) fun b => optK (makeSliceE P s t a b) K := by
  simp only [aop, ev]; cases opr s x <;> cases opr s y <;> rfl
@[simp] theorem aop_slice00 (t : TypeId) (x : Operand) : aop P R ⟨d, .slice t x none none none, ty, pos, af, g⟩ s K = optK (opr s x) fun a => optK (sliceE P s t a none none) K := by
  simp only [aop, ev]; cases opr s x <;> rfl
@[simp] theorem aop_slice10 (t : TypeId) (x l : Operand) : aop P R ⟨d, .slice t x (some l) none none, ty, pos, af, g⟩ s K = optK (opr s x) fun a => optK (opr s l) fun l => optK (sliceE P s t a (some l) none) K := by
  simp only [aop, ev]; cases opr s x <;> cases opr s l <;> rfl
@[simp] theorem aop_slice01 (t : TypeId) (x h : Operand) : aop P R ⟨d, .slice t x none (some h) none, ty, pos, af, g⟩ s K = optK (opr s x) fun a => optK (opr s h) fun h => optK (sliceE P s t a none (some h)) K := by
  simp only [aop, ev]; cases opr s x <;> cases opr s h <;> rfl
@[simp] theorem aop_slice11 (t : TypeId) (x l h : Operand) : aop P R ⟨d, .slice t x (some l) (some h) none, ty, pos, af, g⟩ s K = optK (opr s x) fun a => optK (opr s l) fun l => optK (opr s h) fun h => optK (sliceE P s t a (some l) (some h)) K := by
  simp only [aop, ev]; cases opr s x <;> cases opr s l <;> cases opr s h <;> rfl
@[simp] theorem aop_fieldAddr (t : TypeId) (x : Operand) (f : Nat) : aop P R ⟨d, .fieldAddr t x f, ty, pos, af, g⟩ s K = optK (opr s x) fun a => optK (fieldAddrE P s t a f) K := by
  simp only [aop, ev]; cases opr s x <;> rfl
@[simp] theorem aop_field (t : TypeId) (x : Operand) (f : Nat) : aop P R ⟨d, .field t x f, ty, pos, af, g⟩ s K = optK (opr s x) fun a => optK (fieldE P s t a f) K := by
  simp only [aop, ev]; cases opr s x <;> rfl
@[simp] theorem aop_indexAddr (t : TypeId) (x i : Operand) : aop P R ⟨d, .indexAddr t x i, ty, pos, af, g⟩ s K = optK (opr s x) fun a => optK (opr s i) fun i => optK (indexAddrE P s t a i) K := by
  simp only [aop, ev]; cases opr s x <;> cases opr s i <;> rfl
@[simp] theorem aop_index (t : TypeId) (x i : Operand) : aop P R ⟨d, .index t x i, ty, pos, af, g⟩ s K = optK (opr s x) fun a => optK (opr s i) fun i => optK (indexE P s t a i) K := by
  simp only [aop, ev]; cases opr s x <;> cases opr s i <;> rfl
def extrE (s : AS) (i : Nat) : AV → Option Res
  | .tup vs => match vs[i]? with | some v => some ⟨v, [], s.nx, []⟩ | none => none
  | _ => none
@[simp] theorem aop_extract (x : Operand) (i : Nat) : aop P R ⟨d, .extract x i, ty, pos, af, g⟩ s K = optK (opr s x) fun a => optK (extrE s i a) K := by
  simp only [aop, ev]; cases opr s x with
  | none => rfl
  | some v => cases v <;> rfl
@[simp] theorem aop_builtin (b : Builtin) (xs : Array Operand) (ts : Array TypeId) : aop P R ⟨d, .call ⟨.builtin b, xs, ts⟩, ty, pos, af, g⟩ s K = optK (oprs s xs.toList) fun v => optK (builtinE P s b ts.toList v) K := by
  simp only [aop, ev]; cases oprs s xs.toList <;> rfl
@[simp] theorem aop_call (f : Operand) (xs : Array Operand) (ts : Array TypeId) : aop P R ⟨d, .call ⟨.value f, xs, ts⟩, ty, pos, af, g⟩ s K = optK (callee s ⟨.value f, xs, ts⟩) fun x => acall R s x.1 x.2 K := propext Iff.rfl
@[simp] theorem awops_nil (all : Array Oper) (lg : Log) (K : AS → Log → Prop) : awops P R all [] s lg K = K s lg := propext Iff.rfl
@[simp] theorem awops_cons (op : Op) (all : Array Oper) (rest : List Oper) (lg : Log) (K : AS → Log → Prop) : awops P R all (⟨d, op, ty, pos, af, none⟩ :: rest) s lg K =
    aop P R ⟨d, op, ty, pos, af, none⟩ s fun r => awops P R all rest (s.put d r) ((r.rd, r.d.map (·.1)) :: lg) K := propext Iff.rfl
@[simp] theorem awops_guard (op : Op) (all : Array Oper) (rest : List Oper) (lg : Log) (K : AS → Log → Prop) (j : Nat) (b : Bool) : awops P R all (⟨d, op, ty, pos, af, some (j, b)⟩ :: rest) s lg K =
    optK (guardVal all s j) fun q => Br (q == some b) (aop P R ⟨d, op, ty, pos, af, some (j, b)⟩ s fun r => awops P R all rest (s.put d r) ((r.rd, r.d.map (·.1)) :: lg) K)
      (awops P R all rest (s.junk d) (([], []) :: lg) K) := propext Iff.rfl
end
end Go.Ab
end
