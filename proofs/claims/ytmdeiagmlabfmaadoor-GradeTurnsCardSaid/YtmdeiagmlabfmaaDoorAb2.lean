/- The abstract interpreter: what an abstract state says of a world; code. Conditions: none (definitions only). -/
import Derived.Test.YtmdeiagmlabfmaaDoorAb1
import Derived.WalkKit
set_option linter.unusedVariables false
set_option linter.unusedSimpArgs false
set_option linter.unusedSectionVars false

namespace Go.Ab
open Go.RowKit (Below)

/-- A pure value and what the machine holds: read in world w, in blocks that are ok. -/
inductive RepP (w : World) (ok : Nat → Prop) : AV → Value → Prop
  | jk (v : Value) : RepP w ok .jk v
  | sc (v : Value) : RepP w ok (.sc v) v
  | nil : RepP w ok .nil (.slice none 0 0)
  | slNil (sz : Nat) : RepP w ok (.sl sz []) (.slice none 0 0)
  | slEmp (sz : Nat) (a : Addr) (cap : Nat) : RepP w ok (.sl sz []) (.slice (some a) 0 cap)
  | sl (sz : Nat) (xs : List (List AV)) (b o cap : Nat) (cv : Nat → Nat → Value) (hok : ok b) (hc : xs.length ≤ cap)
      (hz : ∀ (i : Nat) (cs : List AV), xs[i]? = some cs → cs.length = sz)
      (hr : ∀ (i : Nat) (cs : List AV) (j : Nat) (c : AV), xs[i]? = some cs → cs[j]? = some c → w.cell? ⟨b, o + i * sz + j, none⟩ = some (cv i j))
      (h1 : ∀ (i : Nat) (cs : List AV) (j : Nat) (c : AV), xs[i]? = some cs → cs[j]? = some c → (cv i j).oneCell' = true)
      (hv : ∀ (i : Nat) (cs : List AV) (j : Nat) (c : AV), xs[i]? = some cs → cs[j]? = some c → RepP w ok c (cv i j)) :
      RepP w ok (.sl sz xs) (.slice (some ⟨b, o, none⟩) xs.length cap)
  | ref (cs : List AV) (b o : Nat) (cv : Nat → Value) (hok : ok b)
      (hr : ∀ (j : Nat) (c : AV), cs[j]? = some c → w.cell? ⟨b, o + j, none⟩ = some (cv j))
      (h1 : ∀ (j : Nat) (c : AV), cs[j]? = some c → (cv j).oneCell' = true)
      (hv : ∀ (j : Nat) (c : AV), cs[j]? = some c → RepP w ok c (cv j)) : RepP w ok (.ref cs) (.pointer (some ⟨b, o, none⟩))
  | fn (f : FuncId) (first cap : List AV) (fv cv : List Value) (hl : fv.length = first.length) (hc : cv.length = cap.length)
      (hf : ∀ (j : Nat) (c : AV) (v : Value), first[j]? = some c → fv[j]? = some v → RepP w ok c v)
      (hg : ∀ (j : Nat) (c : AV) (v : Value), cap[j]? = some c → cv[j]? = some v → RepP w ok c v) : RepP w ok (.fn f first cap) (.func (.func f) fv.toArray cv.toArray)
  | agg (cs : List AV) (cv : List Value) (hl : cv.length = cs.length) (h1 : ∀ v, v ∈ cv → v.oneCell' = true)
      (hv : ∀ (j : Nat) (c : AV) (v : Value), cs[j]? = some c → cv[j]? = some v → RepP w ok c v) : RepP w ok (.agg cs) (.agg cv.toArray)
  | tup (cs : List AV) (cv : List Value) (hl : cv.length = cs.length)
      (hv : ∀ (j : Nat) (c : AV) (v : Value), cs[j]? = some c → cv[j]? = some v → RepP w ok c v) : RepP w ok (.tup cs) (.tuple cv.toArray)

structure Env where
  w : World
  ok : Nat → Prop
  loc : Nat → Option (Nat × Nat × Nat)
  al : Nat → Prop

/-- An abstract value and what the machine holds. -/
inductive Rep (E : Env) : AV → Value → Prop
  | pure {a : AV} {v : Value} (h : RepP E.w E.ok a v) : Rep E a v
  | ownNil (id : Nat) (ha : E.al id) (hl : E.loc id = none) : Rep E (.own id 0 0) (.slice none 0 0)
  | own (id off len b o z cap : Nat) (ha : E.al id) (hl : E.loc id = some (b, o, z)) (hc : len ≤ cap)
      (hs : ∃ (c : Array Value) (t : TypeId) (f : Nat × Nat), E.w.heap[b]? = some (.cells c t f) ∧ o + (off + cap) * z ≤ c.size) :
      Rep E (.own id off len) (.slice (some ⟨b, o + off * z, none⟩) len cap)
  | ptr (id i j b o z : Nat) (ha : E.al id) (hl : E.loc id = some (b, o, z)) : Rep E (.ptr id i j) (.pointer (some ⟨b, o + i * z + j, none⟩))
  | fn (f : FuncId) (first cap : List AV) (fv cv : List Value) (hl : fv.length = first.length) (hc : cv.length = cap.length)
      (hf : ∀ (j : Nat) (c : AV) (v : Value), first[j]? = some c → fv[j]? = some v → Rep E c v)
      (hg : ∀ (j : Nat) (c : AV) (v : Value), cap[j]? = some c → cv[j]? = some v → Rep E c v) : Rep E (.fn f first cap) (.func (.func f) fv.toArray cv.toArray)
  | agg (cs : List AV) (cv : List Value) (hl : cv.length = cs.length) (h1 : ∀ v, v ∈ cv → v.oneCell' = true)
      (hv : ∀ (j : Nat) (c : AV) (v : Value), cs[j]? = some c → cv[j]? = some v → Rep E c v) : Rep E (.agg cs) (.agg cv.toArray)
  | tup (cs : List AV) (cv : List Value) (hl : cv.length = cs.length)
      (hv : ∀ (j : Nat) (c : AV) (v : Value), cs[j]? = some c → cv[j]? = some v → Rep E c v) : Rep E (.tup cs) (.tuple cv.toArray)

/-- The cells of a row, from o on. -/
def Cells (w : World) (ok : Nat → Prop) (c : Array Value) (o sz : Nat) (xs : List (List AV)) : Prop :=
  ∀ (i : Nat) (cs : List AV), xs[i]? = some cs → cs.length = sz ∧ ∀ (j : Nat) (a : AV), cs[j]? = some a → ∃ x, c[o + i * sz + j]? = some x ∧ x.oneCell' = true ∧ RepP w ok a x

def ArrRel (E : Env) (base : Nat) (id : Nat) : Arr → Prop
  | .dead => True
  | .row sz xs =>
    match E.loc id with
    | none => xs = []
    | some (b, o, z) => ∃ c t, E.w.heap[b]? = some (.cells c t (0, 0)) ∧ base ≤ b ∧ ¬ E.ok b ∧ o + xs.length * z ≤ c.size ∧ z = sz ∧ Cells E.w E.ok c o sz xs
  | .frz sz xs =>
    match E.loc id with
    | none => xs = []
    | some (b, o, z) => ∃ c t, E.w.heap[b]? = some (.cells c t (0, 0)) ∧ base ≤ b ∧ E.ok b ∧ o + xs.length * z ≤ c.size ∧ z = sz ∧ Cells E.w E.ok c o sz xs
  | .box cs => ∃ b c t, E.loc id = some (b, 0, 0) ∧ E.w.heap[b]? = some (.cells c t (0, 0)) ∧ base ≤ b ∧ ¬ E.ok b ∧ c.size = cs.length ∧
      ∀ (j : Nat) (a : AV), cs[j]? = some a → ∃ x, c[j]? = some x ∧ x.oneCell' = true ∧ Rep E a x

def Arr.isMut : Arr → Bool
  | .row _ _ | .box _ => true
  | _ => false

structure MemRel (E : Env) (base : Nat) (mem : List (Nat × Arr)) : Prop where
  arr : ∀ id arr, get mem id = some arr → E.al id ∧ ArrRel E base id arr
  far : ∀ id id' arr arr' b o z o' z', get mem id = some arr → get mem id' = some arr' → arr.isMut = true → arr'.isMut = true →
    E.loc id = some (b, o, z) → E.loc id' = some (b, o', z') → id = id'

/-- What is common to all states of an activation. -/
structure Frm (E : Env) (w0 : World) (okb : Nat → Prop) : Prop where
  below : Below w0.heap.size w0 E.w
  okb : ∀ b, b < w0.heap.size → E.ok b → okb b
  lt : ∀ b, E.ok b → b < E.w.heap.size

def TmRel (E : Env) (tm : List (Nat × AV)) (a : Act) : Prop := ∀ t v, get tm t = some v → ∃ x, a.tmps[t]? = some x ∧ Rep E v x

def GoodE (E : Env) (n : Nat) (w0 : World) (okb : Nat → Prop) (s : AS) (a : Act) : Prop :=
  Frm E w0 okb ∧ a.defers = [] ∧ a.tmps.size = n ∧ TmRel E s.tm a ∧ MemRel E w0.heap.size s.mem

def Good (n : Nat) (w0 : World) (okb : Nat → Prop) (s : AS) (a : Act) (w : World) : Prop :=
  ∃ E, E.w = w ∧ (∀ id, E.al id → id < s.nx) ∧ GoodE E n w0 okb s a

/-- s' says no more than s. -/
def Weak (s s' : AS) : Prop := ∀ n w0 okb a w, Good n w0 okb s a w → Good n w0 okb s' a w

/-- An argument, as a callee gets it. -/
inductive ArgTo (mem : List (Nat × Arr)) : AV → AV → Prop
  | same {a : AV} (h : owns a = false) : ArgTo mem a a
  | nil (sz : Nat) : ArgTo mem .nil (.sl sz [])
  | row {id off len sz : Nat} {xs : List (List AV)} (h : get mem id = some (.row sz xs)) (hl : off + len ≤ xs.length) : ArgTo mem (.own id off len) (.sl sz ((xs.drop off).take len))
  | frz {id off len sz : Nat} {xs : List (List AV)} (h : get mem id = some (.frz sz xs)) (hl : off + len ≤ xs.length) : ArgTo mem (.own id off len) (.sl sz ((xs.drop off).take len))
  | empty {id off : Nat} {sz sz' : Nat} {xs : List (List AV)} (h : get mem id = some (.row sz xs)) : ArgTo mem (.own id off 0) (.sl sz' [])
  | box {id j : Nat} {cs cs' : List AV} (h : get mem id = some (.box cs)) (hl : cs'.length = (cs.drop j).length)
      (hv : ∀ (q : Nat) (c c' : AV), (cs.drop j)[q]? = some c → cs'[q]? = some c' → ArgTo mem c c') : ArgTo mem (.ptr id 0 j) (.ref cs')
  | fn {f : FuncId} {x y x' y' : List AV} (hx : x'.length = x.length) (hy : y'.length = y.length)
      (h1 : ∀ (q : Nat) (c c' : AV), x[q]? = some c → x'[q]? = some c' → ArgTo mem c c')
      (h2 : ∀ (q : Nat) (c c' : AV), y[q]? = some c → y'[q]? = some c' → ArgTo mem c c') : ArgTo mem (.fn f x y) (.fn f x' y')
  | agg {x x' : List AV} (hx : x'.length = x.length)
      (h1 : ∀ (q : Nat) (c c' : AV), x[q]? = some c → x'[q]? = some c' → ArgTo mem c c') : ArgTo mem (.agg x) (.agg x')

def ArgsTo (mem : List (Nat × Arr)) : List AV → List AV → Prop
  | [], [] => True
  | a :: r, a' :: r' => ArgTo mem a a' ∧ ArgsTo mem r r'
  | _, _ => False

/-- A value that is handed back: what it becomes; the rows handed over whole; the rows that are read from then on. -/
inductive RetTo (mem : List (Nat × Arr)) : AV → AV → List Nat → List Nat → Prop
  | same {a : AV} (h : owns a = false) : RetTo mem a a [] []
  | nil (sz : Nat) : RetTo mem .nil (.sl sz []) [] []
  | nilF (sz : Nat) : RetTo mem .nil (.fr sz []) [] []
  | fr {id off len sz : Nat} {xs : List (List AV)} (h : get mem id = some (.row sz xs)) (hl : off + len ≤ xs.length) : RetTo mem (.own id off len) (.fr sz ((xs.drop off).take len)) [id] []
  | sl {id off len sz : Nat} {xs : List (List AV)} (h : get mem id = some (.row sz xs)) (hl : off + len ≤ xs.length) : RetTo mem (.own id off len) (.sl sz ((xs.drop off).take len)) [] [id]
  | frz {id off len sz : Nat} {xs : List (List AV)} (h : get mem id = some (.frz sz xs)) (hl : off + len ≤ xs.length) : RetTo mem (.own id off len) (.sl sz ((xs.drop off).take len)) [] []

inductive RetsTo (mem : List (Nat × Arr)) : List AV → List AV → List Nat → List Nat → Prop
  | nil : RetsTo mem [] [] [] []
  | cons {a a' : AV} {r r' : List AV} {x y x' y' : List Nat} (h : RetTo mem a a' x y) (hr : RetsTo mem r r' x' y') : RetsTo mem (a :: r) (a' :: r') (x ++ x') (y ++ y')
  | aggs {cs cs' r r' : List AV} {x y x' y' : List Nat} (h : RetsTo mem cs cs' x y) (hr : RetsTo mem r r' x' y') : RetsTo mem (.agg cs :: r) (.agg cs' :: r') (x ++ x') (y ++ y')

abbrev CallRel := FuncId → List AV → AV → Prop

/-- The rows that a call's arguments are made of, frozen. -/
def frzC (mem : List (Nat × Arr)) : List AV → Option (List (Nat × Arr))
  | [] => some []
  | .own id _ _ :: r =>
    match get mem id, frzC mem r with
    | some (.row sz xs), some d => some ((id, .frz sz xs) :: d)
    | some (.frz _ _), some d => some d
    | _, _ => none
  | a :: r => if owns a then none else frzC mem r
/-- Arguments, a struct by its cells. -/
def flatA : List AV → List AV
  | [] => []
  | .agg cs :: r => cs ++ flatA r
  | a :: r => a :: flatA r
def frzOf (mem : List (Nat × Arr)) (as : List AV) : Option (List (Nat × Arr)) := frzC mem (flatA as)

def optK {α : Type} (x : Option α) (K : α → Prop) : Prop := match x with | some a => K a | none => False
def Br (b : Bool) (A B : Prop) : Prop := if b = true then A else B

/-- What a call in place leaves of a row. -/
def mutRes (s : AS) (id off len sz : Nat) (xs ys : List (List AV)) : Res := ⟨.tup [], [(id, .row sz (xs.take off ++ ys ++ xs.drop (off + len)))], s.nx, [id]⟩
/-- A call that works in place on a row of the caller's own: it is known by '.fr' for '.fr'. -/
def amut (R : CallRel) (s : AS) (g : FuncId) (as : List AV) (K : Res → Prop) : Prop :=
  ∃ id off len sz xs ys, as = [.own id off len] ∧ get s.mem id = some (.row sz xs) ∧ off + len ≤ xs.length ∧ (0 < len ∧ len ≤ 9223372036854775807) ∧ R g [.fr sz ((xs.drop off).take len)] (.fr sz ys) ∧ K (mutRes s id off len sz xs ys)
/-- A call: out of what it is known to hand back. -/
def acall (R : CallRel) (s : AS) (g : FuncId) (as : List AV) (K : Res → Prop) : Prop :=
  (∃ as' r, ArgsTo s.mem as as' ∧ R g as' r ∧
    match noref r, frzOf s.mem as with
    | true, _ => K ⟨r, [], s.nx, if as.any owns then s.mem.map (·.1) else []⟩
    | false, some z => K ⟨(imp s.nx r).1, (imp s.nx r).2.1 ++ z, (imp s.nx r).2.2, if as.any owns then s.mem.map (·.1) else []⟩
    | false, none => False) ∨ amut R s g as K
def isFr : AV → Bool
  | .fr _ _ => true
  | _ => false

def callee (s : AS) (c : Call) : Option (FuncId × List AV) :=
  match c.callee with
  | .value f =>
    match opr s f, oprs s c.args.toList with
    | some (.fn g first cap), some as => some (g, first ++ as ++ cap)
    | _, _ => none
  | _ => none

def aop (P : Program) (R : CallRel) (o : Oper) (s : AS) (K : Res → Prop) : Prop :=
  match o.op with
  | .call ⟨.value f, args, ts⟩ => optK (callee s ⟨.value f, args, ts⟩) fun x => acall R s x.1 x.2 K
  | _ => optK (ev P o s) K

def guardVal (ops : Array Oper) (s : AS) (j : Nat) : Option (Option Bool) :=
  match (ops[j]?).bind (·.dst) with
  | some d => match get s.tm d with
    | some (.sc (.bool b)) => some (some b)
    | some (.sc (.tuple _)) => some none
    | _ => none
  | none => none

abbrev Log := List (List Nat × List Nat)

def awops (P : Program) (R : CallRel) (all : Array Oper) : List Oper → AS → Log → (AS → Log → Prop) → Prop
  | [], s, lg, K => K s lg
  | o :: rest, s, lg, K =>
    match o.guard with
    | none => aop P R o s fun r => awops P R all rest (s.put o.dst r) ((r.rd, r.d.map (·.1)) :: lg) K
    | some (j, want) => optK (guardVal all s j) fun b =>
        Br (b == some want) (aop P R o s fun r => awops P R all rest (s.put o.dst r) ((r.rd, r.d.map (·.1)) :: lg) K)
          (awops P R all rest (s.junk o.dst) (([], []) :: lg) K)

/-- No two operations that may come in either order touch one row. (The log is in reverse.) -/
def clash (x y : List Nat × List Nat) : Bool :=
  x.2.any (fun i => y.1.contains i || y.2.contains i) || y.2.any (fun i => x.1.contains i)
def noConf (b : Array Nat) (lg : Log) : Bool :=
  let l := lg.reverse.zipIdx
  l.all fun (x, i) => l.all fun (y, j) => !(decide (i < j)) || (b.getD j 0).testBit i || !clash x y
/-- What an operation names. -/
def tmpsOk (ops : Array Oper) : Bool :=
  let b := Region.before ops
  ops.toList.zipIdx.all fun (x, i) => ops.toList.zipIdx.all fun (y, j) => !(decide (i < j)) || (b.getD j 0).testBit i || x.apart ops y

inductive Ex where
  | normal
  | exit (id : Nat)
  | ret
def Ex.then (A : AS → Prop) (Q : Ex → AS → Prop) : Ex → AS → Prop
  | .normal, s => A s
  | e, s => Q e s
def Ex.inBlock (id : Nat) (Q : Ex → AS → Prop) : Ex → AS → Prop
  | .exit i, s => Br (i == id) (Q .normal s) (Q (.exit i) s)
  | e, s => Q e s

def condVal (s : AS) (c : Operand) : Option Bool :=
  match opr s c with
  | some (.sc (.bool t)) => some t
  | _ => none

/-- An operation waits for earlier ones only. -/
def ordOk (ops : Array Oper) : Bool := ops.toList.zipIdx.all fun (o, j) => o.after.all fun e => !Region.binds .any e || decide (e.on < j)
/-- The facts on a region that may come in any order. -/
def DrawOk (ops : Array Oper) (lg : Log) : Prop := ordOk ops = true ∧ tmpsOk ops = true ∧ noConf (Region.before ops) lg = true

def awp (P : Program) (R : CallRel) : Code → (Ex → AS → Prop) → AS → Prop
  | .skip, Q, s => Q .normal s
  | .region _ ops false, Q, s => awops P R ops ops.toList s [] fun s' _ => Q .normal s'
  | .region _ ops true, Q, s => awops P R ops ops.toList s [] fun s' lg => DrawOk ops lg ∧ Q .normal s'
  | .seq x y, Q, s => awp P R x (Ex.then (awp P R y Q) Q) s
  | .cond c x y, Q, s => optK (condVal s c) fun t => Br t (awp P R x Q s) (awp P R y Q s)
  | .block id x, Q, s => awp P R x (Ex.inBlock id Q) s
  | .loop x, Q, s => ∀ I : AS → Prop, (∀ s s', Weak s s' → awp P R x (Ex.then I Q) s' → I s) → I s
  | .exit i, Q, s => Q (.exit i) s
  | .ret, Q, s => Q .ret s
  | _, _, _ => False

def resVar (P : Program) (s : AS) : ResultVar → Option AV
  | .tmp t => get s.tm t
  | .cell a t => match get s.tm a with
    | some p => match tsz P t, behind s p with
      | some z, some (cs, _) => part z cs
      | _, _ => none
    | none => none
def resVars (P : Program) (s : AS) : List ResultVar → Option (List AV)
  | [] => some []
  | x :: r => match resVar P s x, resVars P s r with
    | some v, some vs => some (v :: vs)
    | _, _ => none

/-- A value that is handed back: K takes the rows that are given away. -/
def retC (mem : List (Nat × Arr)) (a a' : AV) (used : List Nat) (K : List Nat → Prop) : Prop :=
  match a, a' with
  | .own id off len, .fr sz xs => (match get mem id with
    | some (.row sz' ys) => sz = sz' ∧ off + len ≤ ys.length ∧ xs = (ys.drop off).take len ∧ used.contains id = false ∧ K (id :: used)
    | _ => False)
  | .own id off len, .sl sz xs => (match get mem id with
    | some (.row sz' ys) => sz = sz' ∧ off + len ≤ ys.length ∧ xs = (ys.drop off).take len ∧ used.contains id = false ∧ K (id :: used)
    | some (.frz sz' ys) => sz = sz' ∧ off + len ≤ ys.length ∧ xs = (ys.drop off).take len ∧ K used
    | _ => False)
  | .nil, .sl _ xs => xs = [] ∧ K used
  | .nil, .fr _ xs => xs = [] ∧ K used
  | a, a' => a = a' ∧ owns a = false ∧ K used
def retCs (mem : List (Nat × Arr)) : List AV → List AV → List Nat → (List Nat → Prop) → Prop
  | [], [], used, K => K used
  | a :: r, a' :: r', used, K => retC mem a a' used fun u => retCs mem r r' u K
  | _, _, _, _ => False
def retTs (mem : List (Nat × Arr)) : List AV → List AV → List Nat → (List Nat → Prop) → Prop
  | [], [], used, K => K used
  | .agg cs :: r, .agg cs' :: r', used, K => retCs mem cs cs' used fun u => retTs mem r r' u K
  | a :: r, a' :: r', used, K => retC mem a a' used fun u => retTs mem r r' u K
  | _, _, _, _ => False
def unpack (vs : List AV) (r : AV) : List AV := match vs, r with
  | [_], r => [r]
  | _, .tup rs => rs
  | _, _ => []

def packs (vs : List AV) (r : AV) : Bool := match vs, r with
  | [_], _ => true
  | _, .tup _ => true
  | _, _ => false
/-- The results of a function, as the caller is told them. -/
def retPost (P : Program) (rv : Array ResultVar) (r : AV) (e : Ex) (s : AS) : Prop :=
  match e with
  | .exit _ => False
  | _ => optK (resVars P s rv.toList) fun vs => retTs s.mem vs (unpack vs r) [] fun _ => packs vs r = true

def dstsOk (n : Nat) : Code → Bool
  | .region _ ops _ => ops.all fun o => match o.dst with | some d => decide (d < n) | none => true
  | .seq x y | .cond _ x y => dstsOk n x && dstsOk n y
  | .block _ x | .loop x => dstsOk n x
  | _ => true
def number : Nat → List AV → List (Nat × AV)
  | _, [] => []
  | n, v :: r => (n, v) :: number (n + 1) r
def init (as : List AV) : AS := ⟨number 0 as, [], 0⟩

/-- A function's body hands back r. -/
def Body (P : Program) (R : CallRel) (f : FuncId) (as : List AV) (r : AV) : Prop :=
  ∃ fn c, P.funcs[f]? = some fn ∧ fn.body = some c ∧ (fn.name == "runtime.NumGoroutine") = false ∧ as.length ≤ fn.ntmps ∧ dstsOk fn.ntmps c = true ∧ as.any isFr = false ∧ awp P R c (retPost P fn.results r) (init as)

/-- f hands back r. X: what is known of functions from elsewhere. -/
def Ret (P : Program) (X : CallRel) (f : FuncId) (as : List AV) (r : AV) : Prop :=
  ∀ R : CallRel, (∀ f as r, X f as r → R f as r) → (∀ f as r, Body P R f as r → R f as r) → R f as r
end Go.Ab
