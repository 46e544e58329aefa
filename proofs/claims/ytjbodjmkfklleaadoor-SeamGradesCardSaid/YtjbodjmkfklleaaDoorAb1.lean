/- The abstract interpreter: values, memory, operations. Conditions: none (definitions only). -/
import Derived.Below
import Derived.Laws.Sem
import Derived.Orders
import Derived.KernelRfl
set_option linter.unusedVariables false
set_option linter.unusedSimpArgs false
set_option linter.unusedSectionVars false

namespace Go.Ab

/-- Abstract values. -/
inductive AV where
  | jk
  | sc (v : Value)
  | nil
  | sl (sz : Nat) (xs : List (List AV))
  | own (id off len : Nat)
  | fr (sz : Nat) (xs : List (List AV))
  | ptr (id i j : Nat)
  | ref (cs : List AV)
  | fn (f : FuncId) (first captured : List AV)
  | agg (cs : List AV)
  | tup (vs : List AV)
  deriving Inhabited

/-- An abstract block. -/
inductive Arr where
  | row (sz : Nat) (xs : List (List AV))
  | frz (sz : Nat) (xs : List (List AV))
  | box (cs : List AV)
  | dead
  deriving Inhabited

def get {α : Type} : List (Nat × α) → Nat → Option α
  | [], _ => none
  | (u, v) :: r, t => if u = t then some v else get r t

structure AS where
  tm : List (Nat × AV)
  mem : List (Nat × Arr)
  nx : Nat

/-- What an operation yields: its value, what it lays in memory, the next number, the numbers it has read. -/
structure Res where
  v : AV
  d : List (Nat × Arr)
  nx : Nat
  rd : List Nat

/-! Types, as the program has them. -/
def tsz (P : Program) (t : TypeId) : Option (Bool × Nat) :=
  match P.underlying t, P.info? t with
  | some (.struct _), some i => some (true, i.size)
  | some (.array _ _), some i => some (true, i.size)
  | some _, some i => some (false, i.size)
  | _, _ => none
def telem (P : Program) (t : TypeId) : Option TypeId :=
  match P.underlying t with
  | some (.slice e) => some e
  | _ => none
def tfld (P : Program) (t : TypeId) (f : Nat) : Option (Nat × TypeId) :=
  match P.underlying t with
  | some (.struct fs) => (fs[f]?).map fun x => (x.offset, x.type)
  | _ => none
def tbytes (P : Program) (t : TypeId) : Option Nat := (P.info? t).map (·.bytes)
def tint (P : Program) (t : TypeId) : Option IntKind :=
  match P.underlying t with
  | some (.int k) => some k
  | _ => none
def tstr (P : Program) (t : TypeId) : Bool :=
  match P.underlying t with
  | some .string => true
  | _ => false
def constCell (v : Value) : AV :=
  match v with
  | .slice none 0 0 => .nil
  | v => .sc v
def constAV (v : Value) : AV :=
  match v with
  | .agg cs => .agg (cs.toList.map constCell)
  | v => constCell v
def tzero (P : Program) (t : TypeId) : Option (List AV) :=
  ((P.info? t).bind (·.zero)).bind fun v => if v.cells.toList.all (·.oneCell') = true then some (v.cells.toList.map constCell) else none

def cok (v : Value) : Bool :=
  match v with
  | .agg cs => cs.all (·.oneCell')
  | _ => true
def opr (s : AS) : Operand → Option AV
  | .tmp t => get s.tm t
  | .const v => if cok v = true then some (constAV v) else none
  | .func f => some (.fn f [] [])
  | .global _ => none

def cells : AV → Option (List AV)
  | .agg cs => some cs
  | .tup _ => none
  | .fr _ _ => none
  | .jk => none
  | .sc v => if v.oneCell' = true then some [.sc v] else none
  | v => some [v]

/-- A part of a row of cells as a value. -/
def part (a : Bool × Nat) (cs : List AV) : Option AV :=
  if a.1 then (if a.2 ≤ cs.length then some (.agg (cs.take a.2)) else none) else cs.head?

/-- Cells laid over others. -/
def splice (cs : List AV) (j : Nat) (vs : List AV) : Option (List AV) :=
  if j + vs.length ≤ cs.length then some (cs.take j ++ vs ++ cs.drop (j + vs.length)) else none

def fillParts (place : Nat → Option (Nat × Nat)) : List AV → List (Nat × AV) → Option (List AV)
  | cs, [] => some cs
  | cs, (i, v) :: r =>
    match place i, cells v with
    | some (o, n), some vs => if vs.length = n then (match splice cs o vs with | some cs' => fillParts place cs' r | none => none) else none
    | _, _ => none

def oprs (s : AS) : List Operand → Option (List AV)
  | [] => some []
  | x :: r => match opr s x, oprs s r with
    | some v, some vs => some (v :: vs)
    | _, _ => none
def oprs2 (s : AS) : List (Nat × Operand) → Option (List (Nat × AV))
  | [] => some []
  | (i, x) :: r => match opr s x, oprs2 s r with
    | some v, some vs => some ((i, v) :: vs)
    | _, _ => none

/-- A cell that is put into a row must be pure: a row of the call's own is frozen. -/
def pureCell (mem : List (Nat × Arr)) : AV → Option (AV × List (Nat × Arr) × List Nat)
  | .own id off len =>
    match get mem id with
    | some (.row sz xs) => if off + len ≤ xs.length then some (.sl sz ((xs.drop off).take len), [(id, .frz sz xs)], [id]) else none
    | some (.frz sz xs) => if off + len ≤ xs.length then some (.sl sz ((xs.drop off).take len), [], [id]) else none
    | _ => none
  | .sc v => some (.sc v, [], [])
  | .nil => some (.nil, [], [])
  | .sl sz xs => some (.sl sz xs, [], [])
  | _ => none
def pureCells (mem : List (Nat × Arr)) : List AV → Option (List AV × List (Nat × Arr) × List Nat)
  | [] => some ([], [], [])
  | c :: r =>
    match pureCell mem c with
    | some (c', d, rd) =>
      match pureCells (d ++ mem) r with
      | some (r', d', rd') => some (c' :: r', d' ++ d, rd ++ rd')
      | none => none
    | none => none

def binI (op : BinOp) (k : IntKind) (a b : Int) : Option Value :=
  match op with
  | .add => some (.int k (k.wrap (a + b)))
  | .sub => some (.int k (k.wrap (a - b)))
  | .mul => some (.int k (k.wrap (a * b)))
  | .quo => if b = 0 then none else some (.int k (k.wrap (a.tdiv b)))
  | .rem => if b = 0 then none else some (.int k (a.tmod b))
  | .and => some (.int k (k.wrap (BitVec.ofInt k.bits a &&& BitVec.ofInt k.bits b).toNat))
  | .or => some (.int k (k.wrap (BitVec.ofInt k.bits a ||| BitVec.ofInt k.bits b).toNat))
  | .xor => some (.int k (k.wrap (BitVec.ofInt k.bits a ^^^ BitVec.ofInt k.bits b).toNat))
  | .eql => some (.bool (a == b))
  | .neq => some (.bool (a != b))
  | .lss => some (.bool (decide (a < b)))
  | .leq => some (.bool (decide (a ≤ b)))
  | .gtr => some (.bool (decide (a > b)))
  | .geq => some (.bool (decide (a ≥ b)))
  | _ => none
def binS (op : BinOp) (a b : ByteArray) : Option Value :=
  match op with
  | .add => if ((a.size + b.size : Nat) : Int) ≤ IntKind.i64.max then some (.string (a ++ b)) else none
  | .eql => some (.bool (a.toList == b.toList))
  | .neq => some (.bool (!(a.toList == b.toList)))
  | .lss => some (.bool (Op.bytesLess a.toList b.toList))
  | .leq => some (.bool (Op.bytesLess a.toList b.toList || a.toList == b.toList))
  | .gtr => some (.bool (!(Op.bytesLess a.toList b.toList || a.toList == b.toList)))
  | .geq => some (.bool (!Op.bytesLess a.toList b.toList))
  | _ => none
/-- Equality of scalar cells, by kinds: 0 a whole number, 1 a bool, 2 a string. -/
def eqKind : Nat → Value → Value → Option Bool
  | 0, .int k a, .int k' b => if k = k' then some (a == b) else none
  | 1, .bool a, .bool b => some (a == b)
  | 2, .string a, .string b => some (a == b)
  | _, _, _ => none
def eqCells : List Nat → List AV → List AV → Option Bool
  | [], [], [] => some true
  | k :: ks, .sc a :: r, .sc b :: r' =>
    match eqKind k a b, eqCells ks r r' with
    | some p, some q => some (p && q)
    | _, _ => none
  | _, _, _ => none
def flatFields (P : Program) (rec : TypeId → Option (List Nat)) : List Field → Nat → Option (List Nat)
  | [], _ => some []
  | f :: r, o =>
    if f.offset = o ∧ (f.name == "_") = false then
      match rec f.type, tsz P f.type with
      | some ks, some (_, n) => if n = ks.length ∧ 0 < n then (flatFields P rec r (o + n)).map (ks ++ ·) else none
      | _, _ => none
    else none
/-- A type whose values are compared cell by cell: the kinds of its cells. -/
def flatKinds (P : Program) : Nat → TypeId → Option (List Nat)
  | 0, _ => none
  | d + 1, t =>
    match P.underlying t with
    | some .bool => if tsz P t = some (false, 1) then some [1] else none
    | some (.int _) => if tsz P t = some (false, 1) then some [0] else none
    | some .string => if tsz P t = some (false, 1) then some [2] else none
    | some (.struct fs) =>
      if P.stoodInHeld t = false then
        match flatFields P (flatKinds P d) fs.toList 0 with
        | some ks => if tsz P t = some (true, ks.length) then some ks else none
        | none => none
      else none
    | _ => none
def eqKinds (P : Program) (t : TypeId) : Option (List Nat) := if P.eqGuardType P.depth t = false ∧ (tsz P t).map (·.1) = some true then flatKinds P 6 t else none
def bin (P : Program) (op : BinOp) (t : TypeId) (x y : AV) : Option AV :=
  match x, y with
  | .sc (.int k a), .sc (.int k' b) =>
    match op with
    | .shl => if b < 0 then none else some (.sc (.int k (k.wrap (a * 2 ^ (min b.toNat k.bits)))))
    | .shr => if b < 0 then none else some (.sc (.int k (a.fdiv (2 ^ (min b.toNat k.bits)))))
    | _ => if k = k' then (binI op k a b).map .sc else none
  | .sc (.string a), .sc (.string b) => (binS op a b).map .sc
  | .sc (.bool a), .sc (.bool b) =>
    match op, P.underlying t with
    | .eql, some .bool => some (.sc (.bool (a == b)))
    | .neq, some .bool => some (.sc (.bool (!(a == b))))
    | _, _ => none
  | .agg xs, .agg ys =>
    match eqKinds P t with
    | some ks =>
      match op with
      | .eql => (eqCells ks xs ys).map fun q => .sc (.bool q)
      | .neq => (eqCells ks xs ys).map fun q => .sc (.bool (!q))
      | _ => none
    | none => none
  | _, _ => none
def un (op : UnOp) (x : AV) : Option AV :=
  match op, x with
  | .neg, .sc (.int k n) => some (.sc (.int k (k.wrap (0 - n))))
  | .not, .sc (.bool b) => some (.sc (.bool (!b)))
  | .xor, .sc (.int k n) => some (.sc (.int k (k.wrap (BitVec.ofInt k.bits (if k.signed then -1 else k.max) ^^^ BitVec.ofInt k.bits n).toNat)))
  | _, _ => none

def lim : Nat := 140737488355328

/-- The source of an append or a copy of elements of n cells: its elements. -/
def source (s : AS) (n : Nat) : AV → Option (List (List AV) × List Nat)
  | .nil => some ([], [])
  | .sl sz xs => if sz = n then some (xs, []) else none
  | .own id off len =>
    match get s.mem id with
    | some (.row sz xs) => if sz = n ∧ off + len ≤ xs.length then some ((xs.drop off).take len, [id]) else none
    | some (.frz sz xs) => if sz = n ∧ off + len ≤ xs.length then some ((xs.drop off).take len, [id]) else none
    | _ => none
  | .sc (.string b) => if n = 1 then some (b.toList.map fun c => [.sc (.int .u8 c.toNat)], []) else none
  | _ => none

def AS.put (s : AS) (dst : Option Tmp) (r : Res) : AS :=
  ⟨match dst with | some d => (d, r.v) :: s.tm | none => s.tm, r.d ++ s.mem, r.nx⟩
def AS.junk (s : AS) (dst : Option Tmp) : AS :=
  ⟨match dst with | some d => (d, .sc undef) :: s.tm | none => s.tm, s.mem, s.nx⟩

/-- The cells behind a pointer. -/
def behind (s : AS) : AV → Option (List AV × List Nat)
  | .ref cs => some (cs, [])
  | .ptr id i j =>
    match get s.mem id with
    | some (.box cs) => if i = 0 then some (cs.drop j, [id]) else none
    | some (.row _ xs) => match xs[i]? with | some cs => some (cs.drop j, [id]) | none => none
    | some (.frz _ xs) => match xs[i]? with | some cs => some (cs.drop j, [id]) | none => none
    | _ => none
  | _ => none

def loadE (P : Program) (s : AS) (t : TypeId) (p : AV) : Option Res :=
  match tsz P t, behind s p with
  | some a, some (cs, rd) => match part a cs with
    | some v => some ⟨v, [], s.nx, rd⟩
    | none => none
  | _, _ => none
def storeE (P : Program) (s : AS) (t : TypeId) (p v : AV) : Option Res :=
  match tsz P t, cells v, p with
  | some (_, n), some vs, .ptr id i j =>
    if vs.length = n then
      match get s.mem id with
      | some (.box cs) => if i = 0 then (match splice cs j vs with | some cs' => some ⟨.jk, [(id, .box cs')], s.nx, [id]⟩ | none => none) else none
      | some (.row sz xs) =>
        match pureCells s.mem vs, xs[i]? with
        | some (vs', d, rd), some cs =>
          if d.all (fun x => x.1 != id) then
            match splice cs j vs' with
            | some cs' => some ⟨.jk, (id, .row sz (xs.set i cs')) :: d, s.nx, id :: rd⟩
            | none => none
          else none
        | _, _ => none
      | _ => none
    else none
  | _, _, _ => none
def allocE (P : Program) (s : AS) (t : TypeId) : Option Res :=
  match tsz P t, tzero P t with
  | some (_, n), some z => if z.length = n then some ⟨.ptr s.nx 0 0, [(s.nx, .box z)], s.nx + 1, []⟩ else none
  | _, _ => none
def boxE (s : AS) (v : AV) : Option Res :=
  match cells v with
  | some vs => some ⟨.ptr s.nx 0 0, [(s.nx, .box vs)], s.nx + 1, []⟩
  | none => none
/-- A struct's fields: where, and how many cells. -/
def tplaces (P : Program) (t : TypeId) : Option (List (Nat × Nat)) :=
  match P.underlying t with
  | some (.struct fs) => fs.toList.mapM fun f => (P.info? f.type).map fun i => (f.offset, i.size)
  | _ => none
def buildE (P : Program) (s : AS) (t : TypeId) (ps : List (Nat × AV)) : Option Res :=
  match tplaces P t, tzero P t with
  | some pl, some z =>
    match fillParts (pl[·]?) z ps with
    | some cs => some ⟨.agg cs, [], s.nx, []⟩
    | none => none
  | _, _ => none
/-- Elements 0, 1, 2, .. of a slice literal, each given. -/
def elems (n : Nat) : Nat → List (Nat × AV) → Option (List (List AV))
  | _, [] => some []
  | k, (i, v) :: r => match cells v, elems n (k + 1) r with
    | some vs, some xs => if i = k ∧ vs.length = n then some (vs :: xs) else none
    | _, _ => none
def pureRows (mem : List (Nat × Arr)) : List (List AV) → Option (List (List AV) × List (Nat × Arr) × List Nat)
  | [] => some ([], [], [])
  | c :: r =>
    match pureCells mem c with
    | some (c', d, rd) =>
      match pureRows (d ++ mem) r with
      | some (r', d', rd') => some (c' :: r', d' ++ d, rd ++ rd')
      | none => none
    | none => none
def buildSliceE (P : Program) (s : AS) (t : TypeId) (len : Nat) (ps : List (Nat × AV)) : Option Res :=
  match telem P t with
  | some e =>
    match tsz P e, tzero P e with
    | some (_, n), some z =>
      if z.length = n ∧ 0 < n ∧ len * n ≤ 16777216 ∧ ps.length = len then
        match elems n 0 ps with
        | some xs => match pureRows s.mem xs with
          | some (xs', d, rd) => some ⟨.own s.nx 0 len, (s.nx, .row n xs') :: d, s.nx + 1, rd⟩
          | none => none
        | none => none
      else none
    | _, _ => none
  | none => none
def makeSliceE (P : Program) (s : AS) (t : TypeId) (l c : AV) : Option Res :=
  match telem P t, l, c with
  | some e, .sc (.int .i64 l), .sc (.int .i64 c) =>
    match tsz P e, tzero P e, tbytes P e with
    | some (_, n), some z, some b =>
      if l ≤ c ∧ 0 ≤ l ∧ c * b ≤ (lim : Int) ∧ c ≤ 9223372036854775807 ∧ z.length = n ∧ 0 < n then
        some ⟨.own s.nx 0 l.toNat, [(s.nx, .row n (List.replicate l.toNat z))], s.nx + 1, []⟩
      else none
    | _, _, _ => none
  | _, _, _ => none
def bound (d : Nat) : Option AV → Option Int
  | none => some d
  | some (.sc (.int _ n)) => some n
  | _ => none
def sliceE (P : Program) (s : AS) (t : TypeId) (x : AV) (lo hi : Option AV) : Option Res :=
  match x with
  | .sc (.string b) =>
    match tstr P t, bound 0 lo, bound b.size hi with
    | true, some l, some h => if 0 ≤ l ∧ l ≤ h ∧ h ≤ b.size then some ⟨.sc (.string (b.extract l.toNat h.toNat)), [], s.nx, []⟩ else none
    | _, _, _ => none
  | .sl sz xs =>
    match (telem P t).bind (tsz P), bound 0 lo, bound xs.length hi with
    | some (_, n), some l, some h => if 0 ≤ l ∧ l ≤ h ∧ h ≤ xs.length ∧ n = sz then some ⟨.sl sz ((xs.take h.toNat).drop l.toNat), [], s.nx, []⟩ else none
    | _, _, _ => none
  | .own id off len =>
    match (telem P t).bind (tsz P), bound 0 lo, bound len hi, get s.mem id with
    | some (_, n), some l, some h, some (.row sz xs) => if 0 ≤ l ∧ l ≤ h ∧ h ≤ len ∧ n = sz ∧ 0 < xs.length ∧ (l = 0 ∨ l < len) then some ⟨.own id (off + l.toNat) (h - l).toNat, [], s.nx, [id]⟩ else none
    | some (_, n), some l, some h, some (.frz sz xs) => if 0 ≤ l ∧ l ≤ h ∧ h ≤ len ∧ n = sz ∧ 0 < xs.length ∧ (l = 0 ∨ l < len) then some ⟨.own id (off + l.toNat) (h - l).toNat, [], s.nx, [id]⟩ else none
    | _, _, _, _ => none
  | _ => none
def indexSlE (P : Program) (s : AS) (t : TypeId) (x i : AV) : Option Res :=
  match i, (telem P t).bind (tsz P) with
  | .sc (.int _ i), some (_, n) =>
    match x with
    | .sl sz xs => if 0 ≤ i ∧ n = sz then (match xs[i.toNat]? with | some cs => some ⟨.ref cs, [], s.nx, []⟩ | none => none) else none
    | .own id off len =>
      match get s.mem id with
      | some (.row sz xs) => if 0 ≤ i ∧ i < len ∧ n = sz ∧ 0 < xs.length then some ⟨.ptr id (off + i.toNat) 0, [], s.nx, [id]⟩ else none
      | some (.frz sz xs) => if 0 ≤ i ∧ i < len ∧ n = sz ∧ 0 < xs.length then some ⟨.ptr id (off + i.toNat) 0, [], s.nx, [id]⟩ else none
      | _ => none
    | _ => none
  | _, _ => none
def tarr (P : Program) (t : TypeId) : Option (Nat × TypeId) :=
  match P.underlying t with
  | some (.array n e) => some (n, e)
  | _ => none
/-- An element of an array behind a pointer. -/
def arrAddrE (P : Program) (s : AS) (n : Nat) (e : TypeId) (x i : AV) : Option Res :=
  match i, tsz P e, x with
  | .sc (.int _ i), some (_, m), .ptr id a j => if 0 ≤ i ∧ i < n then some ⟨.ptr id a (j + i.toNat * m), [], s.nx, []⟩ else none
  | .sc (.int _ i), some (_, m), .ref cs => if 0 ≤ i ∧ i < n then some ⟨.ref (cs.drop (i.toNat * m)), [], s.nx, []⟩ else none
  | _, _, _ => none
def indexAddrE (P : Program) (s : AS) (t : TypeId) (x i : AV) : Option Res :=
  match tarr P t with
  | some (n, e) => arrAddrE P s n e x i
  | none => indexSlE P s t x i
def indexE (P : Program) (s : AS) (t : TypeId) (x i : AV) : Option Res :=
  match x, i, tstr P t with
  | .sc (.string b), .sc (.int _ i), true => if 0 ≤ i then (match b[i.toNat]? with | some c => some ⟨.sc (.int .u8 c.toNat), [], s.nx, []⟩ | none => none) else none
  | _, _, _ => none
def fieldAddrE (P : Program) (s : AS) (t : TypeId) (p : AV) (f : Nat) : Option Res :=
  match tfld P t f with
  | some (o, u) =>
    match tsz P u, p with
    | some (_, n), .ptr id i j => if 0 < n then some ⟨.ptr id i (j + o), [], s.nx, []⟩ else none
    | some (_, n), .ref cs => if 0 < n then some ⟨.ref (cs.drop o), [], s.nx, []⟩ else none
    | _, _ => none
  | none => none
def fieldE (P : Program) (s : AS) (t : TypeId) (x : AV) (f : Nat) : Option Res :=
  match tfld P t f, x with
  | some (o, u), .agg cs => match tsz P u with
    | some a => match part a (cs.drop o) with | some v => some ⟨v, [], s.nx, []⟩ | none => none
    | none => none
  | _, _ => none
def tfloat (P : Program) (t : TypeId) : Option FloatKind :=
  match P.underlying t with
  | some (.float k) => some k
  | _ => none
def convE (P : Program) (s : AS) (src dst : TypeId) (x : AV) : Option Res :=
  match x with
  | .sc (.int _ n) => match tint P src, tint P dst, tfloat P dst with
    | some _, some k, _ => some ⟨.sc (.int k (k.wrap n)), [], s.nx, []⟩
    | some _, none, some k => some ⟨.sc (.float k (k.nearest n)), [], s.nx, []⟩
    | _, _, _ => none
  | .sc (.float k b) => match tfloat P src, tint P dst, (k.decode b).toInt .zero with
    | some _, some k', some n => if k'.min ≤ n ∧ n ≤ k'.max then some ⟨.sc (.int k' n), [], s.nx, []⟩ else none
    | _, _, _ => none
  | .sc (.string b) => if tstr P dst ∧ tstr P src then some ⟨.sc (.string b), [], s.nx, []⟩ else none
  | _ => none
def lenE (P : Program) (s : AS) (t : TypeId) (x : AV) : Option Res :=
  match x with
  | .sc (.string b) => if tstr P t then some ⟨.sc (.int .i64 b.size), [], s.nx, []⟩ else none
  | .sl _ xs => if (telem P t).isSome then some ⟨.sc (.int .i64 xs.length), [], s.nx, []⟩ else none
  | .nil => if (telem P t).isSome then some ⟨.sc (.int .i64 0), [], s.nx, []⟩ else none
  | .own _ _ n => if (telem P t).isSome then some ⟨.sc (.int .i64 n), [], s.nx, []⟩ else none
  | _ => none
def tnoint (P : Program) (t : TypeId) : Bool :=
  match P.underlying t with
  | some (.int _) => false
  | some _ => true
  | none => false
def appendE (P : Program) (s : AS) (t : TypeId) (x y : AV) (ytOk : Bool) : Option Res :=
  match telem P t with
  | some e =>
    match tsz P e, tbytes P e, tzero P e with
    | some (_, n), some b, some z =>
      match source s n y with
      | some (es, rd) =>
        if ytOk = true ∧ z.length = n ∧ 0 < n ∧ 0 < b then
          match x with
          | .nil => if es.length * b ≤ lim then some ⟨.own s.nx 0 es.length, [(s.nx, .row n es)], s.nx + 1, rd⟩ else none
          | .own id off len =>
            match get s.mem id with
            | some (.row sz xs) =>
              if (len + es.length) * b ≤ lim ∧ sz = n ∧ off + len ≤ xs.length then
                some ⟨.own s.nx 0 (len + es.length), [(s.nx, .row n ((xs.drop off).take len ++ es)), (id, .dead)], s.nx + 1, id :: rd⟩
              else none
            | _ => none
          | _ => none
        else none
      | none => none
    | _, _, _ => none
  | none => none
def copyE (P : Program) (s : AS) (t : TypeId) (x y : AV) : Option Res :=
  match (telem P t).bind (tsz P), x with
  | some (_, n), .own id off len =>
    match get s.mem id, source s n y with
    | some (.row sz xs), some (es, rd) =>
      if n = sz ∧ off + len ≤ xs.length ∧ 0 < n then
        some ⟨.sc (.int .i64 (min es.length len : Nat)), [(id, .row sz (xs.take off ++ es.take (min es.length len) ++ xs.drop (off + min es.length len)))], s.nx, id :: rd⟩
      else none
    | _, _ => none
  | _, _ => none
def minmax (isMax : Bool) : Int → List AV → Option Int
  | a, [] => some a
  | a, .sc (.int _ b) :: r => minmax isMax (if isMax then (if b > a then b else a) else (if b < a then b else a)) r
  | _, _ => none
def builtinE (P : Program) (s : AS) (b : Builtin) (ts : List TypeId) (xs : List AV) : Option Res :=
  match b, ts, xs with
  | .len, [t], [x] => lenE P s t x
  | .append, [t, u], [x, y] => appendE P s t x y (tnoint P u)
  | .copy, [t, _], [x, y] => copyE P s t x y
  | .max, _, .sc (.int k a) :: r => (minmax true a r).map fun m => ⟨.sc (.int k m), [], s.nx, []⟩
  | .min, _, .sc (.int k a) :: r => (minmax false a r).map fun m => ⟨.sc (.int k m), [], s.nx, []⟩
  | _, _, _ => none

/-- What an operation that is no call yields. -/
def ev (P : Program) (o : Oper) (s : AS) : Option Res :=
  match o.op with
  | .move x | .assign x => match opr s x with | some v => some ⟨v, [], s.nx, []⟩ | none => none
  | .pick c a b => match opr s c with
    | some (.sc (.bool t)) => match (if t then opr s a else opr s b) with | some v => some ⟨v, [], s.nx, []⟩ | none => none
    | _ => none
  | .alloc t => allocE P s t
  | .box _ x => match opr s x with | some v => boxE s v | none => none
  | .build t ps => match oprs2 s ps.toList with | some vs => buildE P s t vs | none => none
  | .buildSlice t n ps => match oprs2 s ps.toList with | some vs => buildSliceE P s t n vs | none => none
  | .load t p => match opr s p with | some v => loadE P s t v | none => none
  | .store t p x => match opr s p, opr s x with | some p, some v => storeE P s t p v | _, _ => none
  | .nilCheck x => match opr s x with
    | some (.ptr id i j) => some ⟨.ptr id i j, [], s.nx, []⟩
    | some (.ref cs) => some ⟨.ref cs, [], s.nx, []⟩
    | some (.fn f a b) => some ⟨.fn f a b, [], s.nx, []⟩
    | _ => none
  | .binOp op t x y _ => match opr s x, opr s y with
    | some a, some b => match bin P op t a b with | some v => some ⟨v, [], s.nx, []⟩ | none => none
    | _, _ => none
  | .unOp op _ x => match opr s x with
    | some a => match un op a with | some v => some ⟨v, [], s.nx, []⟩ | none => none
    | none => none
  | .convert t u x => match opr s x with | some v => convE P s t u v | none => none
  | .makeFunc (.func f) a b => match oprs s a.toList, oprs s b.toList with | some a, some b => some ⟨.fn f a b, [], s.nx, []⟩ | _, _ => none
  | .makeSlice t l c => match opr s l, opr s c with | some l, some c => makeSliceE P s t l c | _, _ => none
  | .slice t x none none none => match opr s x with | some v => sliceE P s t v none none | none => none
  | .slice t x (some l) none none => match opr s x, opr s l with | some v, some l => sliceE P s t v (some l) none | _, _ => none
  | .slice t x none (some h) none => match opr s x, opr s h with | some v, some h => sliceE P s t v none (some h) | _, _ => none
  | .slice t x (some l) (some h) none => match opr s x, opr s l, opr s h with | some v, some l, some h => sliceE P s t v (some l) (some h) | _, _, _ => none
  | .fieldAddr t x f => match opr s x with | some v => fieldAddrE P s t v f | none => none
  | .field t x f => match opr s x with | some v => fieldE P s t v f | none => none
  | .indexAddr t x i => match opr s x, opr s i with | some v, some i => indexAddrE P s t v i | _, _ => none
  | .index t x i => match opr s x, opr s i with | some v, some i => indexE P s t v i | _, _ => none
  | .extract x i => match opr s x with
    | some (.tup vs) => match vs[i]? with | some v => some ⟨v, [], s.nx, []⟩ | none => none
    | _ => none
  | .call c => match c.callee with
    | .builtin b => match oprs s c.args.toList with | some vs => builtinE P s b c.argTypes.toList vs | none => none
    | _ => none
  | _ => none

/-- Does an argument lead to memory of the call's own? -/
def owns : AV → Bool
  | .own _ _ _ | .ptr _ _ _ | .fn _ _ _ | .agg _ | .tup _ => true
  | _ => false
def isSc : AV → Bool
  | .sc _ => true
  | _ => false
def noref1 : AV → Bool
  | .sc _ => true
  | .agg cs => cs.all isSc
  | _ => false
def noref : AV → Bool
  | .sc _ => true
  | .agg cs => cs.all isSc
  | .tup vs => vs.all noref1
  | _ => false
/-- A result as the caller takes it: what is fresh becomes a row of its own. -/
def impCell (n : Nat) : AV → AV × List (Nat × Arr) × Nat
  | .fr sz xs => (.own n 0 xs.length, [(n, .row sz xs)], n + 1)
  | v => (v, [], n)
def impCells (n : Nat) : List AV → List AV × List (Nat × Arr) × Nat
  | [] => ([], [], n)
  | v :: r => ((impCell n v).1 :: (impCells (impCell n v).2.2 r).1, (impCells (impCell n v).2.2 r).2.1 ++ (impCell n v).2.1, (impCells (impCell n v).2.2 r).2.2)
def imp1 (n : Nat) : AV → AV × List (Nat × Arr) × Nat
  | .agg cs => (.agg (impCells n cs).1, (impCells n cs).2.1, (impCells n cs).2.2)
  | v => impCell n v
def imps (n : Nat) : List AV → List AV × List (Nat × Arr) × Nat
  | [] => ([], [], n)
  | v :: r => ((imp1 n v).1 :: (imps (imp1 n v).2.2 r).1, (imps (imp1 n v).2.2 r).2.1 ++ (imp1 n v).2.1, (imps (imp1 n v).2.2 r).2.2)
def imp (n : Nat) : AV → AV × List (Nat × Arr) × Nat
  | .tup vs => (.tup (imps n vs).1, (imps n vs).2.1, (imps n vs).2.2)
  | v => imp1 n v
end Go.Ab
