/- The abstract interpreter, run on symbols: what the data decides is told ahead, and is left to be shown. -/
import Derived.Test.YtjbodjmkfklleaaDoorAbX
set_option linter.unusedVariables false
set_option linter.unusedSimpArgs false
set_option linter.unusedSectionVars false

namespace Go.Ab

/-- What is told ahead. -/
inductive Ans where
  | bit (b : Bool)
  | val (v : AV)
  | cells (cs : List AV)
  | rows (n : Nat) (xs : List (List AV))
  | call (ids : List Nat) (as : List AV) (r : AV)
  | mut (rows : List (List AV))
  | same (r : AV)
abbrev Orc := List Ans
/-- What is left to be shown. -/
def All : List Prop → Prop
  | [] => True
  | p :: r => p ∧ All r
theorem All.append {x y : List Prop} (h : All (x ++ y)) : All x ∧ All y := by
  induction x with
  | nil => exact ⟨trivial, h⟩
  | cons p r ih => exact ⟨⟨h.1, (ih h.2).1⟩, (ih h.2).2⟩
abbrev Tells := Option (Res × Orc × List Prop)
def ok1 (s : AS) (v : AV) (orc : Orc) (ob : List Prop) : Tells := some (⟨v, [], s.nx, []⟩, orc, ob)
def plain (x : Option Res) (orc : Orc) : Tells := match x with | some r => some (r, orc, []) | none => none

def arith : BinOp → Bool
  | .eql | .neq | .lss | .leq | .gtr | .geq => false
  | _ => true
def binT (P : Program) (s : AS) (op : BinOp) (t : TypeId) (a b : AV) (orc : Orc) : Tells :=
  match arith op with
  | true => match orc with
    | .val v :: r => ok1 s v r [bin P op t a b = some v]
    | _ => none
  | false => match bin P op t a b with
    | some v => ok1 s v orc []
    | none => none
def unT (s : AS) (op : UnOp) (a : AV) (orc : Orc) : Tells :=
  match op with
  | .not => match un op a with
    | some v => ok1 s v orc []
    | none => none
  | _ => match orc with
    | .val v :: r => ok1 s v r [un op a = some v]
    | _ => none
def pickT (s : AS) (c a b : Option AV) (orc : Orc) : Tells :=
  match c, orc with
  | some (.sc (.bool t)), .bit q :: r => (match (match q with | true => a | false => b) with
    | some v => ok1 s v r [t = q]
    | none => none)
  | _, _ => none
def convT (P : Program) (s : AS) (t u : TypeId) (a : AV) (orc : Orc) : Tells :=
  match a, orc with
  | .sc (.string b), orc => plain (convE P s t u (.sc (.string b))) orc
  | a, .val v :: r => ok1 s v r [convE P ⟨[], [], 0⟩ t u a = some ⟨v, [], 0, []⟩]
  | _, _ => none
def loadT (P : Program) (s : AS) (t : TypeId) (p : AV) (orc : Orc) : Tells :=
  match p with
  | .ptr id i j => (match get s.mem id with
    | some (.row _ xs) => (match orc, tsz P t with
      | .cells cs :: r, some a => (match part a (cs.drop j) with
        | some v => some (⟨v, [], s.nx, [id]⟩, r, [xs[i]? = some cs])
        | none => none)
      | _, _ => none)
    | some (.frz _ xs) => (match orc, tsz P t with
      | .cells cs :: r, some a => (match part a (cs.drop j) with
        | some v => some (⟨v, [], s.nx, [id]⟩, r, [xs[i]? = some cs])
        | none => none)
      | _, _ => none)
    | _ => plain (loadE P s t p) orc)
  | p => plain (loadE P s t p) orc
def pureCellT (mem : List (Nat × Arr)) (orc : Orc) : AV → Option ((AV × List (Nat × Arr) × List Nat) × Orc × List Prop)
  | .own id off len =>
    match get mem id, orc with
    | some (.row sz xs), .rows _ ys :: r => some ((.sl sz ys, [(id, .frz sz xs)], [id]), r, [off + len ≤ xs.length ∧ (xs.drop off).take len = ys])
    | some (.frz sz xs), .rows _ ys :: r => some ((.sl sz ys, [], [id]), r, [off + len ≤ xs.length ∧ (xs.drop off).take len = ys])
    | _, _ => none
  | .sc v => some ((.sc v, [], []), orc, [])
  | .nil => some ((.nil, [], []), orc, [])
  | .sl sz xs => some ((.sl sz xs, [], []), orc, [])
  | _ => none
def pureCellsT (mem : List (Nat × Arr)) : Orc → List AV → Option ((List AV × List (Nat × Arr) × List Nat) × Orc × List Prop)
  | orc, [] => some (([], [], []), orc, [])
  | orc, c :: r =>
    match pureCellT mem orc c with
    | some ((c', d, rd), orc, ob) =>
      match pureCellsT (d ++ mem) orc r with
      | some ((r', d', rd'), orc, ob') => some ((c' :: r', d' ++ d, rd ++ rd'), orc, ob ++ ob')
      | none => none
    | none => none
def pureRowsT (mem : List (Nat × Arr)) : Orc → List (List AV) → Option ((List (List AV) × List (Nat × Arr) × List Nat) × Orc × List Prop)
  | orc, [] => some (([], [], []), orc, [])
  | orc, c :: r =>
    match pureCellsT mem orc c with
    | some ((c', d, rd), orc, ob) =>
      match pureRowsT (d ++ mem) orc r with
      | some ((r', d', rd'), orc, ob') => some ((c' :: r', d' ++ d, rd ++ rd'), orc, ob ++ ob')
      | none => none
    | none => none
def storeT (P : Program) (s : AS) (t : TypeId) (p v : AV) (orc : Orc) : Tells :=
  match p with
  | .ptr id i j => (match get s.mem id with
    | some (.row sz xs) => (match tsz P t, cells v with
      | some (_, n), some vs => if vs.length = n then (match pureCellsT s.mem orc vs with
          | some ((vs', d, rd), .cells cs :: .rows _ xs' :: r, ob) => if d.all (fun x => x.1 != id) = true then
              (match splice cs j vs' with
              | some cs' => some (⟨.jk, (id, .row sz xs') :: d, s.nx, id :: rd⟩, r, (xs[i]? = some cs ∧ xs.set i cs' = xs') :: ob)
              | none => none) else none
          | _ => none) else none
      | _, _ => none)
    | _ => plain (storeE P s t p v) orc)
  | _ => plain (storeE P s t p v) orc
def buildSliceT (P : Program) (s : AS) (t : TypeId) (len : Nat) (ps : List (Nat × AV)) (orc : Orc) : Tells :=
  match telem P t with
  | some e =>
    match tsz P e, tzero P e with
    | some (_, n), some z =>
      if z.length = n ∧ 0 < n ∧ len * n ≤ 16777216 ∧ ps.length = len then
        match elems n 0 ps with
        | some xs => match pureRowsT s.mem orc xs with
          | some ((xs', d, rd), orc, ob) => some (⟨.own s.nx 0 len, (s.nx, .row n xs') :: d, s.nx + 1, rd⟩, orc, ob)
          | none => none
        | none => none
      else none
    | _, _ => none
  | none => none
def makeSliceT (P : Program) (s : AS) (t : TypeId) (l c : AV) (orc : Orc) : Tells :=
  match telem P t, l, c, orc with
  | some e, .sc (.int .i64 l), .sc (.int .i64 c), .rows m xs :: r =>
    match tsz P e, tzero P e, tbytes P e with
    | some (_, n), some z, some b =>
      if z.length = n ∧ 0 < n then
        some (⟨.own s.nx 0 m, [(s.nx, .row n xs)], s.nx + 1, []⟩, r, [l ≤ c ∧ 0 ≤ l ∧ c * b ≤ (lim : Int) ∧ c ≤ 9223372036854775807 ∧ l.toNat = m ∧ List.replicate m z = xs])
      else none
    | _, _, _ => none
  | _, _, _, _ => none
def sliceT (P : Program) (s : AS) (t : TypeId) (x : AV) (lo hi : Option AV) (orc : Orc) : Tells :=
  match x, orc with
  | .sc (.string b), .val (.sc (.string b')) :: r =>
    (match tstr P t, bound 0 lo, bound b.size hi with
    | true, some l, some h => ok1 s (.sc (.string b')) r [0 ≤ l ∧ l ≤ h ∧ h ≤ b.size ∧ b.extract l.toNat h.toNat = b']
    | _, _, _ => none)
  | .sl sz xs, .val (.sl sz' ys) :: r =>
    (match (telem P t).bind (tsz P), bound 0 lo, bound xs.length hi with
    | some (_, n), some l, some h => if n = sz ∧ sz' = sz then ok1 s (.sl sz ys) r [0 ≤ l ∧ l ≤ h ∧ h ≤ xs.length ∧ (xs.take h.toNat).drop l.toNat = ys] else none
    | _, _, _ => none)
  | .own id off len, .val (.own id' off' len') :: r =>
    (match (telem P t).bind (tsz P), bound 0 lo, bound len hi, get s.mem id with
    | some (_, n), some l, some h, some (.row sz xs) => if n = sz ∧ id' = id then some (⟨.own id off' len', [], s.nx, [id]⟩, r, [0 ≤ l ∧ l ≤ h ∧ h ≤ len ∧ 0 < xs.length ∧ (l = 0 ∨ l < len) ∧ off + l.toNat = off' ∧ (h - l).toNat = len']) else none
    | some (_, n), some l, some h, some (.frz sz xs) => if n = sz ∧ id' = id then some (⟨.own id off' len', [], s.nx, [id]⟩, r, [0 ≤ l ∧ l ≤ h ∧ h ≤ len ∧ 0 < xs.length ∧ (l = 0 ∨ l < len) ∧ off + l.toNat = off' ∧ (h - l).toNat = len']) else none
    | _, _, _, _ => none)
  | _, _ => none
def indexAddrT (P : Program) (s : AS) (t : TypeId) (x i : AV) (orc : Orc) : Tells :=
  match tarr P t, i, (telem P t).bind (tsz P) with
  | none, .sc (.int _ i), some (_, n) =>
    match x with
    | .sl sz xs => (match orc with
      | .cells cs :: r => if n = sz then ok1 s (.ref cs) r [0 ≤ i ∧ xs[i.toNat]? = some cs] else none
      | _ => none)
    | .own id off len =>
      (match get s.mem id with
      | some (.row sz xs) => if n = sz then some (⟨.ptr id (off + i.toNat) 0, [], s.nx, [id]⟩, orc, [0 ≤ i ∧ i < len ∧ 0 < xs.length]) else none
      | some (.frz sz xs) => if n = sz then some (⟨.ptr id (off + i.toNat) 0, [], s.nx, [id]⟩, orc, [0 ≤ i ∧ i < len ∧ 0 < xs.length]) else none
      | _ => none)
    | _ => none
  | _, _, _ => none
def indexT (P : Program) (s : AS) (t : TypeId) (x i : AV) (orc : Orc) : Tells :=
  match x, i, tstr P t, orc with
  | .sc (.string b), .sc (.int _ i), true, .val v :: r => ok1 s v r [0 ≤ i ∧ ∃ c, b[i.toNat]? = some c ∧ v = .sc (.int .u8 c.toNat)]
  | _, _, _, _ => none
def lenT (P : Program) (s : AS) (t : TypeId) (x : AV) (orc : Orc) : Tells :=
  match x, orc with
  | .nil, orc => plain (lenE P s t .nil) orc
  | x, .val v :: r => ok1 s v r [lenE P ⟨[], [], 0⟩ t x = some ⟨v, [], 0, []⟩]
  | _, _ => none
def sourceT (s : AS) (n : Nat) : AV → Option (List (List AV) × List Nat × List Prop)
  | .nil => some ([], [], [])
  | .sl sz xs => if sz = n then some (xs, [], []) else none
  | .own id off len =>
    match get s.mem id with
    | some (.row sz xs) => if sz = n then some ((xs.drop off).take len, [id], [off + len ≤ xs.length]) else none
    | some (.frz sz xs) => if sz = n then some ((xs.drop off).take len, [id], [off + len ≤ xs.length]) else none
    | _ => none
  | _ => none
def appendT (P : Program) (s : AS) (t : TypeId) (x y : AV) (ytOk : Bool) (orc : Orc) : Tells :=
  match telem P t with
  | some e =>
    match tsz P e, tbytes P e, tzero P e, orc with
    | some (_, n), some b, some z, .rows m ys :: r =>
      match sourceT s n y with
      | some (es, rd, ob) =>
        if ytOk = true ∧ z.length = n ∧ 0 < n ∧ 0 < b then
          match x with
          | .nil => some (⟨.own s.nx 0 m, [(s.nx, .row n ys)], s.nx + 1, rd⟩, r, (m * b ≤ lim ∧ es = ys ∧ es.length = m) :: ob)
          | .own id off len =>
            match get s.mem id with
            | some (.row sz xs) =>
              if sz = n then
                some (⟨.own s.nx 0 m, [(s.nx, .row n ys), (id, .dead)], s.nx + 1, id :: rd⟩, r, (m * b ≤ lim ∧ off + len ≤ xs.length ∧ (xs.drop off).take len ++ es = ys ∧ len + es.length = m) :: ob)
              else none
            | _ => none
          | _ => none
        else none
      | none => none
    | _, _, _, _ => none
  | none => none
def builtinT (P : Program) (s : AS) (b : Builtin) (ts : List TypeId) (xs : List AV) (orc : Orc) : Tells :=
  match b, ts, xs with
  | .len, [t], [x] => lenT P s t x orc
  | .append, [t, u], [x, y] => appendT P s t x y (tnoint P u) orc
  | .max, _, .sc (.int k a) :: r => (match orc with
    | .val (.sc (.int k' m)) :: orc => if k' = k then ok1 s (.sc (.int k m)) orc [minmax true a r = some m] else none
    | _ => none)
  | .min, _, .sc (.int k a) :: r => (match orc with
    | .val (.sc (.int k' m)) :: orc => if k' = k then ok1 s (.sc (.int k m)) orc [minmax false a r = some m] else none
    | _ => none)
  | _, _, _ => none

/-- An operation that is no call. -/
def evT (P : Program) (o : Oper) (s : AS) (orc : Orc) : Tells :=
  match o.op with
  | .pick c a b => pickT s (opr s c) (opr s a) (opr s b) orc
  | .binOp op t x y _ => (match opr s x, opr s y with
    | some a, some b => binT P s op t a b orc
    | _, _ => none)
  | .unOp op _ x => (match opr s x with
    | some a => unT s op a orc
    | none => none)
  | .convert t u x => (match opr s x with
    | some a => convT P s t u a orc
    | none => none)
  | .load t p => (match opr s p with
    | some a => loadT P s t a orc
    | none => none)
  | .store t p x => (match opr s p, opr s x with
    | some p, some v => storeT P s t p v orc
    | _, _ => none)
  | .buildSlice t n ps => (match oprs2 s ps.toList with
    | some vs => buildSliceT P s t n vs orc
    | none => none)
  | .makeSlice t l c => (match opr s l, opr s c with
    | some l, some c => makeSliceT P s t l c orc
    | _, _ => none)
  | .slice t x none none none => (match opr s x with | some v => sliceT P s t v none none orc | none => none)
  | .slice t x (some l) none none => (match opr s x, opr s l with | some v, some l => sliceT P s t v (some l) none orc | _, _ => none)
  | .slice t x none (some h) none => (match opr s x, opr s h with | some v, some h => sliceT P s t v none (some h) orc | _, _ => none)
  | .slice t x (some l) (some h) none => (match opr s x, opr s l, opr s h with | some v, some l, some h => sliceT P s t v (some l) (some h) orc | _, _, _ => none)
  | .indexAddr t x i => (match opr s x, opr s i with
    | some v, some i => indexAddrT P s t v i orc
    | _, _ => none)
  | .index t x i => (match opr s x, opr s i with
    | some v, some i => indexT P s t v i orc
    | _, _ => none)
  | .call c => (match c.callee with
    | .builtin b => (match oprs s c.args.toList with
      | some vs => builtinT P s b c.argTypes.toList vs orc
      | none => none)
    | _ => none)
  | _ => plain (ev P o s) orc

/-- What the memory holds at some numbers. -/
def sub {α : Type} (ids : List Nat) (m : List (Nat × α)) : List (Nat × α) := ids.filterMap fun i => match get m i with | some a => some (i, a) | none => none
def callR (s : AS) (as : List AV) (r : AV) : Option Res :=
  match noref r, frzOf s.mem as with
  | true, _ => some ⟨r, [], s.nx, if as.any owns then s.mem.map (·.1) else []⟩
  | false, some z => some ⟨(imp s.nx r).1, (imp s.nx r).2.1 ++ z, (imp s.nx r).2.2, if as.any owns then s.mem.map (·.1) else []⟩
  | false, none => none
def callT (R : CallRel) (s : AS) (g : FuncId) (as : List AV) (orc : Orc) : Tells :=
  match orc with
  | .call ids as' r :: orc => (match callR s as r with
    | some q => some (q, orc, [ArgsTo (sub ids s.mem) as as', R g as' r])
    | none => none)
  | .same r :: orc => (match as.all sameB, callR s as r with
    | true, some q => some (q, orc, [R g as r])
    | _, _ => none)
  | .mut rows :: orc => (match as with
    | [.own id off len] => (match get s.mem id with
      | some (.row sz xs) => some (⟨.tup [], [(id, .row sz rows)], s.nx, [id]⟩, orc, [∃ ys, off + len ≤ xs.length ∧ (0 < len ∧ len ≤ 9223372036854775807) ∧ R g [.fr sz ((xs.drop off).take len)] (.fr sz ys) ∧ xs.take off ++ ys ++ xs.drop (off + len) = rows])
      | _ => none)
    | _ => none)
  | _ => none
def opT (P : Program) (R : CallRel) (o : Oper) (s : AS) (orc : Orc) : Tells :=
  match o.op with
  | .call ⟨.value f, args, ts⟩ => (match callee s ⟨.value f, args, ts⟩ with | some x => callT R s x.1 x.2 orc | none => none)
  | _ => evT P o s orc
def opsT (P : Program) (R : CallRel) (all : Array Oper) : List Oper → AS → Log → Orc → Option (AS × Log × Orc × List Prop)
  | [], s, lg, orc => some (s, lg, orc, [])
  | o :: rest, s, lg, orc => match o.guard with
    | none => (match opT P R o s orc with
      | some (r, orc, ob) => (match opsT P R all rest (s.put o.dst r) ((r.rd, r.d.map (·.1)) :: lg) orc with
        | some (s', lg', orc', ob') => some (s', lg', orc', ob ++ ob')
        | none => none)
      | none => none)
    | some (j, want) => match guardVal all s j, orc with
      | some none, orc => opsT P R all rest (s.junk o.dst) (([], []) :: lg) orc
      | some (some b), .bit q :: orc => if (q == want) = true then (match opT P R o s orc with
          | some (r, orc, ob) => (match opsT P R all rest (s.put o.dst r) ((r.rd, r.d.map (·.1)) :: lg) orc with
            | some (s', lg', orc', ob') => some (s', lg', orc', (b = q) :: (ob ++ ob'))
            | none => none)
          | none => none)
        else (match opsT P R all rest (s.junk o.dst) (([], []) :: lg) orc with
          | some (s', lg', orc', ob') => some (s', lg', orc', (b = q) :: ob')
          | none => none)
      | _, _ => none

/-- What is left to do. -/
inductive Fr where
  | sq (c : Code)
  | bl (id : Nat)
  | lb
def kq (P : Program) (R : CallRel) (Q : Ex → AS → Prop) : List (AS → Prop) → List Fr → Ex → AS → Prop
  | _, [] => Q
  | Is, .sq y :: k => Ex.then (awp P R y (kq P R Q Is k)) (kq P R Q Is k)
  | Is, .bl id :: k => Ex.inBlock id (kq P R Q Is k)
  | I :: Is, .lb :: k => Ex.then I (kq P R Q Is k)
  | [], .lb :: _ => fun _ _ => False
inductive Stop where
  | done (e : Ex) (s : AS)
  | loop (d : Nat) (c : Code) (k : List Fr) (s : AS)
  | back (d : Nat) (s : AS)
def Stop.up : Stop → Stop
  | .done e s => .done e s
  | .loop d c k s => .loop (d + 1) c k s
  | .back d s => .back (d + 1) s
inductive Todo where
  | run (c : Code)
  | pop (e : Ex)
def ups : Option (Stop × Orc × List Prop) → Option (Stop × Orc × List Prop)
  | some (st, orc, ob) => some (st.up, orc, ob)
  | none => none
def more (ob : List Prop) : Option (Stop × Orc × List Prop) → Option (Stop × Orc × List Prop)
  | some (st, orc, ob') => some (st, orc, ob ++ ob')
  | none => none
def runT (P : Program) (R : CallRel) : Nat → Todo → List Fr → AS → Orc → Option (Stop × Orc × List Prop)
  | 0, _, _, _, _ => none
  | n + 1, .run c, k, s, orc => (match c with
    | .skip => runT P R n (.pop .normal) k s orc
    | .exit i => runT P R n (.pop (.exit i)) k s orc
    | .ret => runT P R n (.pop .ret) k s orc
    | .region _ ops dr => (match opsT P R ops ops.toList s [] orc with
      | some (s', lg, orc, ob) => if (!dr || drawOkB ops lg) = true then more ob (runT P R n (.pop .normal) k s' orc) else none
      | none => none)
    | .seq x y => runT P R n (.run x) (.sq y :: k) s orc
    | .cond c x y => (match condVal s c, orc with
      | some b, .bit true :: orc => more [b = true] (runT P R n (.run x) k s orc)
      | some b, .bit false :: orc => more [b = false] (runT P R n (.run y) k s orc)
      | _, _ => none)
    | .block id x => runT P R n (.run x) (.bl id :: k) s orc
    | .loop x => some (.loop 0 x k s, orc, [])
    | _ => none)
  | n + 1, .pop e, k, s, orc => (match e, k with
    | e, [] => some (.done e s, orc, [])
    | .normal, .sq y :: k => runT P R n (.run y) k s orc
    | .normal, .bl _ :: k => runT P R n (.pop .normal) k s orc
    | .normal, .lb :: _ => some (.back 0 s, orc, [])
    | .exit i, .sq _ :: k => runT P R n (.pop (.exit i)) k s orc
    | .exit i, .bl id :: k => if (i == id) = true then runT P R n (.pop .normal) k s orc else runT P R n (.pop (.exit i)) k s orc
    | .exit i, .lb :: k => ups (runT P R n (.pop (.exit i)) k s orc)
    | .ret, .lb :: k => ups (runT P R n (.pop .ret) k s orc)
    | .ret, _ :: k => runT P R n (.pop .ret) k s orc)

theorem get_sub {α : Type} {ids : List Nat} {m : List (Nat × α)} {i : Nat} {a : α} (h : get (sub ids m) i = some a) : get m i = some a := by
  unfold sub at h
  induction ids with
  | nil => cases h
  | cons j r ih =>
    rw [List.filterMap_cons] at h
    cases hj : get m j with
    | none => simp only [hj] at h; exact ih h
    | some b =>
      simp only [hj] at h
      rw [get_cons] at h
      split at h
      · rename_i e; subst e; rw [hj]; exact h
      · exact ih h
theorem ArgTo.memMono {mem mem' : List (Nat × Arr)} (hm : ∀ i a, get mem i = some a → get mem' i = some a) {a a' : AV} (h : ArgTo mem a a') : ArgTo mem' a a' := by
  induction h with
  | same h => exact .same h
  | nil sz => exact .nil sz
  | row h hl => exact .row (hm _ _ h) hl
  | frz h hl => exact .frz (hm _ _ h) hl
  | empty h => exact .empty (hm _ _ h)
  | box h hl _ ih => exact .box (hm _ _ h) hl ih
  | fn hx hy _ _ ih1 ih2 => exact .fn hx hy ih1 ih2
  | agg hx _ ih => exact .agg hx ih
theorem ArgsTo.memMono {mem mem' : List (Nat × Arr)} (hm : ∀ i a, get mem i = some a → get mem' i = some a) : ∀ {as as' : List AV}, ArgsTo mem as as' → ArgsTo mem' as as'
  | [], [], _ => trivial
  | _ :: _, _ :: _, h => ⟨h.1.memMono hm, ArgsTo.memMono hm h.2⟩
  | [], _ :: _, h => h.elim
  | _ :: _, [], h => h.elim

/-! It is sound. -/
theorem plain_inv {x : Option Res} {orc : Orc} {r : Res} {orc' : Orc} {ob : List Prop} (h : plain x orc = some (r, orc', ob)) : x = some r := by
  unfold plain at h
  split at h
  · obtain ⟨rfl, _⟩ := Prod.mk.inj (Option.some.inj h); rfl
  · cases h
theorem ok1_inv {s : AS} {v : AV} {orc : Orc} {ob : List Prop} {r : Res} {orc' : Orc} {ob' : List Prop} (h : ok1 s v orc ob = some (r, orc', ob')) : r = ⟨v, [], s.nx, []⟩ ∧ ob' = ob := by
  unfold ok1 at h
  simp only [Option.some.injEq, Prod.mk.injEq] at h
  exact ⟨h.1.symm, h.2.2.symm⟩
theorem convE_nx {P : Program} {s : AS} {t u : TypeId} {a v : AV} (h : convE P ⟨[], [], 0⟩ t u a = some ⟨v, [], 0, []⟩) : convE P s t u a = some ⟨v, [], s.nx, []⟩ := by
  unfold convE at h ⊢
  split at h
  · split at h <;> simp_all
  · split at h
    · split at h <;> simp_all
    · simp_all
  · split at h <;> simp_all
  · cases h
theorem lenE_nx {P : Program} {s : AS} {t : TypeId} {a v : AV} (h : lenE P ⟨[], [], 0⟩ t a = some ⟨v, [], 0, []⟩) : lenE P s t a = some ⟨v, [], s.nx, []⟩ := by
  unfold lenE at h ⊢
  split at h
  · split at h <;> simp_all
  · split at h <;> simp_all
  · split at h <;> simp_all
  · split at h <;> simp_all
  · cases h

theorem binT_sound {P : Program} {s : AS} {op : BinOp} {t : TypeId} {a b : AV} {orc orc' : Orc} {r : Res} {ob : List Prop} (h : binT P s op t a b orc = some (r, orc', ob)) (ho : All ob) :
    (match bin P op t a b with | some v => some (⟨v, [], s.nx, []⟩ : Res) | none => none) = some r := by
  unfold binT at h
  split at h
  · split at h
    · obtain ⟨rfl, rfl⟩ := ok1_inv h
      rw [ho.1]
    · cases h
  · split at h
    · rename_i v hv
      obtain ⟨rfl, rfl⟩ := ok1_inv h
      first | rfl | rw [hv]
    · cases h
theorem unT_sound {s : AS} {op : UnOp} {a : AV} {orc orc' : Orc} {r : Res} {ob : List Prop} (h : unT s op a orc = some (r, orc', ob)) (ho : All ob) :
    (match un op a with | some v => some (⟨v, [], s.nx, []⟩ : Res) | none => none) = some r := by
  unfold unT at h
  split at h
  · split at h
    · rename_i v hv
      obtain ⟨rfl, rfl⟩ := ok1_inv h
      first | rfl | rw [hv]
    · cases h
  · split at h
    · obtain ⟨rfl, rfl⟩ := ok1_inv h
      rw [ho.1]
    · cases h
def pickE (s : AS) (c a b : Option AV) : Option Res :=
  match c with
  | some (.sc (.bool t)) => match (if t then a else b) with | some v => some ⟨v, [], s.nx, []⟩ | none => none
  | _ => none
theorem pickT_sound {s : AS} {c a b : Option AV} {orc orc' : Orc} {r : Res} {ob : List Prop} (h : pickT s c a b orc = some (r, orc', ob)) (ho : All ob) : pickE s c a b = some r := by
  unfold pickT at h
  split at h
  · rename_i t q rr
    unfold pickE
    cases q with
    | true =>
      simp only at h
      split at h
      · obtain ⟨rfl, rfl⟩ := ok1_inv h
        obtain ⟨rfl, _⟩ := ho
        rfl
      · cases h
    | false =>
      simp only at h
      split at h
      · obtain ⟨rfl, rfl⟩ := ok1_inv h
        obtain ⟨rfl, _⟩ := ho
        rfl
      · cases h
  · cases h
theorem convT_sound {P : Program} {s : AS} {t u : TypeId} {a : AV} {orc orc' : Orc} {r : Res} {ob : List Prop} (h : convT P s t u a orc = some (r, orc', ob)) (ho : All ob) : convE P s t u a = some r := by
  unfold convT at h
  split at h
  · exact plain_inv h
  · obtain ⟨rfl, rfl⟩ := ok1_inv h
    exact convE_nx ho.1
  · cases h
theorem loadT_sound {P : Program} {s : AS} {t : TypeId} {p : AV} {orc orc' : Orc} {r : Res} {ob : List Prop} (h : loadT P s t p orc = some (r, orc', ob)) (ho : All ob) : loadE P s t p = some r := by
  unfold loadT at h
  split at h
  · rename_i id i j
    split at h
    · rename_i hg
      split at h
      · rename_i hz
        split at h
        · rename_i hp
          simp only [Option.some.injEq, Prod.mk.injEq] at h
          obtain ⟨rfl, rfl, rfl⟩ := h
          simp only [loadE, behind, hg, hz, ho.1, hp]
        · cases h
      · cases h
    · rename_i hg
      split at h
      · rename_i hz
        split at h
        · rename_i hp
          simp only [Option.some.injEq, Prod.mk.injEq] at h
          obtain ⟨rfl, rfl, rfl⟩ := h
          simp only [loadE, behind, hg, hz, ho.1, hp]
        · cases h
      · cases h
    · exact plain_inv h
  · exact plain_inv h
theorem pureCellT_sound {mem : List (Nat × Arr)} {orc orc' : Orc} {c : AV} {x : AV × List (Nat × Arr) × List Nat} {ob : List Prop} (h : pureCellT mem orc c = some (x, orc', ob)) (ho : All ob) : pureCell mem c = some x := by
  unfold pureCellT at h
  split at h
  · split at h
    · rename_i hg
      simp only [Option.some.injEq, Prod.mk.injEq] at h
      obtain ⟨rfl, rfl, rfl⟩ := h
      obtain ⟨⟨h1, h2⟩, _⟩ := ho
      simp only [pureCell, hg, h1, h2, if_true]
    · rename_i hg
      simp only [Option.some.injEq, Prod.mk.injEq] at h
      obtain ⟨rfl, rfl, rfl⟩ := h
      obtain ⟨⟨h1, h2⟩, _⟩ := ho
      simp only [pureCell, hg, h1, h2, if_true]
    · cases h
  · simp only [Option.some.injEq, Prod.mk.injEq] at h
    obtain ⟨rfl, rfl, rfl⟩ := h; rfl
  · simp only [Option.some.injEq, Prod.mk.injEq] at h
    obtain ⟨rfl, rfl, rfl⟩ := h; rfl
  · simp only [Option.some.injEq, Prod.mk.injEq] at h
    obtain ⟨rfl, rfl, rfl⟩ := h; rfl
  · cases h
theorem pureCellsT_sound : ∀ {cs : List AV} {mem : List (Nat × Arr)} {orc orc' : Orc} {x : List AV × List (Nat × Arr) × List Nat} {ob : List Prop}, pureCellsT mem orc cs = some (x, orc', ob) → All ob → pureCells mem cs = some x
  | [], mem, orc, orc', x, ob, h, ho => by
    simp only [pureCellsT, Option.some.injEq, Prod.mk.injEq] at h
    obtain ⟨rfl, _⟩ := h; rfl
  | c :: r, mem, orc, orc', x, ob, h, ho => by
    unfold pureCellsT at h
    split at h
    · rename_i h1
      split at h
      · rename_i h2
        simp only [Option.some.injEq, Prod.mk.injEq] at h
        obtain ⟨rfl, rfl, rfl⟩ := h
        obtain ⟨o1, o2⟩ := All.append ho
        simp only [pureCells, pureCellT_sound h1 o1, pureCellsT_sound h2 o2]
      · cases h
    · cases h
theorem pureRowsT_sound : ∀ {xs : List (List AV)} {mem : List (Nat × Arr)} {orc orc' : Orc} {x : List (List AV) × List (Nat × Arr) × List Nat} {ob : List Prop}, pureRowsT mem orc xs = some (x, orc', ob) → All ob → pureRows mem xs = some x
  | [], mem, orc, orc', x, ob, h, ho => by
    simp only [pureRowsT, Option.some.injEq, Prod.mk.injEq] at h
    obtain ⟨rfl, _⟩ := h; rfl
  | c :: r, mem, orc, orc', x, ob, h, ho => by
    unfold pureRowsT at h
    split at h
    · rename_i h1
      split at h
      · rename_i h2
        simp only [Option.some.injEq, Prod.mk.injEq] at h
        obtain ⟨rfl, rfl, rfl⟩ := h
        obtain ⟨o1, o2⟩ := All.append ho
        simp only [pureRows, pureCellsT_sound h1 o1, pureRowsT_sound h2 o2]
      · cases h
    · cases h
theorem storeT_sound {P : Program} {s : AS} {t : TypeId} {p v : AV} {orc orc' : Orc} {r : Res} {ob : List Prop} (h : storeT P s t p v orc = some (r, orc', ob)) (ho : All ob) : storeE P s t p v = some r := by
  unfold storeT at h
  split at h
  · rename_i id i j
    split at h
    · rename_i sz xs hg
      split at h
      · rename_i n vs hz hc
        split at h
        · rename_i hl
          split at h
          · rename_i hp
            split at h
            · rename_i hd
              split at h
              · rename_i hs
                simp only [Option.some.injEq, Prod.mk.injEq] at h
                obtain ⟨rfl, rfl, rfl⟩ := h
                obtain ⟨⟨h1, h2⟩, h3⟩ := ho
                have hp := pureCellsT_sound hp h3
                simp only [storeE, hz, hc, hl, if_true, hg, hp, h1, hd, hs, h2]
              · cases h
            · cases h
          · cases h
        · cases h
      · cases h
    · exact plain_inv h
  · exact plain_inv h
theorem buildSliceT_sound {P : Program} {s : AS} {t : TypeId} {n : Nat} {ps : List (Nat × AV)} {orc orc' : Orc} {r : Res} {ob : List Prop} (h : buildSliceT P s t n ps orc = some (r, orc', ob)) (ho : All ob) : buildSliceE P s t n ps = some r := by
  unfold buildSliceT at h
  split at h
  · rename_i h1
    split at h
    · rename_i h2 h3
      split at h
      · rename_i h4
        split at h
        · rename_i h5
          split at h
          · rename_i h6
            simp only [Option.some.injEq, Prod.mk.injEq] at h
            obtain ⟨rfl, rfl, rfl⟩ := h
            simp only [buildSliceE, h1, h2, h3, h5, pureRowsT_sound h6 ho]
            rw [if_pos h4]
          · cases h
        · cases h
      · cases h
    · cases h
  · cases h
theorem makeSliceT_sound {P : Program} {s : AS} {t : TypeId} {l c : AV} {orc orc' : Orc} {r : Res} {ob : List Prop} (h : makeSliceT P s t l c orc = some (r, orc', ob)) (ho : All ob) : makeSliceE P s t l c = some r := by
  unfold makeSliceT at h
  split at h
  · rename_i h1
    split at h
    · rename_i h2 h3 h4
      split at h
      · rename_i h5
        simp only [Option.some.injEq, Prod.mk.injEq] at h
        obtain ⟨rfl, rfl, rfl⟩ := h
        obtain ⟨⟨g1, g2, g3, g4, g5, g6⟩, _⟩ := ho
        subst g5
        simp only [makeSliceE, h1, h2, h3, h4]
        rw [if_pos ⟨g1, g2, g3, g4, h5⟩, g6]
      · cases h
    · cases h
  · cases h
theorem sliceT_sound {P : Program} {s : AS} {t : TypeId} {x : AV} {lo hi : Option AV} {orc orc' : Orc} {r : Res} {ob : List Prop} (h : sliceT P s t x lo hi orc = some (r, orc', ob)) (ho : All ob) : sliceE P s t x lo hi = some r := by
  unfold sliceT at h
  split at h
  · split at h
    · rename_i h1 h2 h3
      obtain ⟨rfl, rfl⟩ := ok1_inv h
      obtain ⟨⟨g1, g2, g3, rfl⟩, _⟩ := ho
      simp only [sliceE, h1, h2, h3]
      rw [if_pos ⟨g1, g2, g3⟩]
    · cases h
  · split at h
    · rename_i h1 h2 h3
      split at h
      · rename_i h4
        obtain ⟨rfl, rfl⟩ := ok1_inv h
        obtain ⟨⟨g1, g2, g3, rfl⟩, _⟩ := ho
        simp only [sliceE, h1, h2, h3]
        rw [if_pos ⟨g1, g2, g3, h4.1⟩]
      · cases h
    · cases h
  · split at h
    · rename_i h1 h2 h3 h5
      split at h
      · rename_i h4
        simp only [Option.some.injEq, Prod.mk.injEq] at h
        obtain ⟨rfl, rfl, rfl⟩ := h
        obtain ⟨⟨g1, g2, g3, g4, g5, rfl, rfl⟩, _⟩ := ho
        simp only [sliceE, h1, h2, h3, h5]
        rw [if_pos ⟨g1, g2, g3, h4.1, g4, g5⟩]
      · cases h
    · rename_i h1 h2 h3 h5
      split at h
      · rename_i h4
        simp only [Option.some.injEq, Prod.mk.injEq] at h
        obtain ⟨rfl, rfl, rfl⟩ := h
        obtain ⟨⟨g1, g2, g3, g4, g5, rfl, rfl⟩, _⟩ := ho
        simp only [sliceE, h1, h2, h3, h5]
        rw [if_pos ⟨g1, g2, g3, h4.1, g4, g5⟩]
      · cases h
    · cases h
  · cases h
theorem indexAddrT_sound {P : Program} {s : AS} {t : TypeId} {x i : AV} {orc orc' : Orc} {r : Res} {ob : List Prop} (h : indexAddrT P s t x i orc = some (r, orc', ob)) (ho : All ob) : indexAddrE P s t x i = some r := by
  unfold indexAddrT at h
  split at h
  · rename_i h0 h1
    unfold indexAddrE
    simp only [h0]
    split at h
    · split at h
      · split at h
        · rename_i h2
          obtain ⟨rfl, rfl⟩ := ok1_inv h
          obtain ⟨⟨g1, g2⟩, _⟩ := ho
          simp only [indexSlE, h1]
          rw [if_pos ⟨g1, h2⟩, g2]
        · cases h
      · cases h
    · split at h
      · rename_i hg
        split at h
        · rename_i h2
          simp only [Option.some.injEq, Prod.mk.injEq] at h
          obtain ⟨rfl, rfl, rfl⟩ := h
          obtain ⟨⟨g1, g2, g3⟩, _⟩ := ho
          simp only [indexSlE, h1, hg]
          rw [if_pos ⟨g1, g2, h2, g3⟩]
        · cases h
      · rename_i hg
        split at h
        · rename_i h2
          simp only [Option.some.injEq, Prod.mk.injEq] at h
          obtain ⟨rfl, rfl, rfl⟩ := h
          obtain ⟨⟨g1, g2, g3⟩, _⟩ := ho
          simp only [indexSlE, h1, hg]
          rw [if_pos ⟨g1, g2, h2, g3⟩]
        · cases h
      · cases h
    · cases h
  · cases h
theorem indexT_sound {P : Program} {s : AS} {t : TypeId} {x i : AV} {orc orc' : Orc} {r : Res} {ob : List Prop} (h : indexT P s t x i orc = some (r, orc', ob)) (ho : All ob) : indexE P s t x i = some r := by
  unfold indexT at h
  split at h
  · rename_i h1
    obtain ⟨rfl, rfl⟩ := ok1_inv h
    obtain ⟨⟨g1, c, g2, rfl⟩, _⟩ := ho
    simp only [indexE, h1, g2]
    rw [if_pos g1]
  · cases h
theorem lenT_sound {P : Program} {s : AS} {t : TypeId} {x : AV} {orc orc' : Orc} {r : Res} {ob : List Prop} (h : lenT P s t x orc = some (r, orc', ob)) (ho : All ob) : lenE P s t x = some r := by
  unfold lenT at h
  split at h
  · exact plain_inv h
  · obtain ⟨rfl, rfl⟩ := ok1_inv h
    exact lenE_nx ho.1
  · cases h
theorem sourceT_sound {s : AS} {n : Nat} {y : AV} {es : List (List AV)} {rd : List Nat} {ob : List Prop} (h : sourceT s n y = some (es, rd, ob)) (ho : All ob) : source s n y = some (es, rd) := by
  unfold sourceT at h
  split at h
  · simp only [Option.some.injEq, Prod.mk.injEq] at h
    obtain ⟨rfl, rfl, rfl⟩ := h; rfl
  · split at h
    · rename_i h1
      simp only [Option.some.injEq, Prod.mk.injEq] at h
      obtain ⟨rfl, rfl, rfl⟩ := h
      simp only [source]
      rw [if_pos h1]
    · cases h
  · split at h
    · rename_i hg
      split at h
      · rename_i h1
        simp only [Option.some.injEq, Prod.mk.injEq] at h
        obtain ⟨rfl, rfl, rfl⟩ := h
        simp only [source, hg]
        rw [if_pos ⟨h1, ho.1⟩]
      · cases h
    · rename_i hg
      split at h
      · rename_i h1
        simp only [Option.some.injEq, Prod.mk.injEq] at h
        obtain ⟨rfl, rfl, rfl⟩ := h
        simp only [source, hg]
        rw [if_pos ⟨h1, ho.1⟩]
      · cases h
    · cases h
  · cases h
theorem appendT_sound {P : Program} {s : AS} {t : TypeId} {x y : AV} {q : Bool} {orc orc' : Orc} {r : Res} {ob : List Prop} (h : appendT P s t x y q orc = some (r, orc', ob)) (ho : All ob) : appendE P s t x y q = some r := by
  unfold appendT at h
  split at h
  · rename_i h1
    split at h
    · rename_i h2 h3 h4
      split at h
      · rename_i h5
        split at h
        · rename_i h6
          split at h
          · simp only [Option.some.injEq, Prod.mk.injEq] at h
            obtain ⟨rfl, rfl, rfl⟩ := h
            obtain ⟨⟨g1, rfl, rfl⟩, ho⟩ := ho
            simp only [appendE, h1, h2, h3, h4, sourceT_sound h5 ho]
            rw [if_pos h6, if_pos g1]
          · split at h
            · rename_i hg
              split at h
              · rename_i h7
                simp only [Option.some.injEq, Prod.mk.injEq] at h
                obtain ⟨rfl, rfl, rfl⟩ := h
                obtain ⟨⟨g1, g2, rfl, rfl⟩, ho⟩ := ho
                simp only [appendE, h1, h2, h3, h4, sourceT_sound h5 ho, hg]
                rw [if_pos h6, if_pos ⟨g1, h7, g2⟩]
              · cases h
            · cases h
          · cases h
        · cases h
      · cases h
    · cases h
  · cases h
theorem builtinT_sound {P : Program} {s : AS} {b : Builtin} {ts : List TypeId} {xs : List AV} {orc orc' : Orc} {r : Res} {ob : List Prop} (h : builtinT P s b ts xs orc = some (r, orc', ob)) (ho : All ob) : builtinE P s b ts xs = some r := by
  unfold builtinT at h
  split at h
  · exact lenT_sound h ho
  · exact appendT_sound h ho
  · split at h
    · split at h
      · rename_i hk
        subst hk
        obtain ⟨rfl, rfl⟩ := ok1_inv h
        simp only [builtinE, ho.1, Option.map_some]
      · cases h
    · cases h
  · split at h
    · split at h
      · rename_i hk
        subst hk
        obtain ⟨rfl, rfl⟩ := ok1_inv h
        simp only [builtinE, ho.1, Option.map_some]
      · cases h
    · cases h
  · cases h
theorem evT_sound {P : Program} {o : Oper} {s : AS} {orc orc' : Orc} {r : Res} {ob : List Prop} (h : evT P o s orc = some (r, orc', ob)) (ho : All ob) : ev P o s = some r := by
  unfold evT at h
  split at h
  · rename_i c a b e
    have := pickT_sound h ho
    unfold ev; rw [e]; exact this
  · rename_i e
    split at h
    · rename_i h1 h2; simp only [ev, e, h1, h2]; exact binT_sound h ho
    · cases h
  · rename_i e
    split at h
    · rename_i h1; simp only [ev, e, h1]; exact unT_sound h ho
    · cases h
  · rename_i e
    split at h
    · rename_i h1; simp only [ev, e, h1]; exact convT_sound h ho
    · cases h
  · rename_i e
    split at h
    · rename_i h1; simp only [ev, e, h1]; exact loadT_sound h ho
    · cases h
  · rename_i e
    split at h
    · rename_i h1 h2; simp only [ev, e, h1, h2]; exact storeT_sound h ho
    · cases h
  · rename_i e
    split at h
    · rename_i h1; simp only [ev, e, h1]; exact buildSliceT_sound h ho
    · cases h
  · rename_i e
    split at h
    · rename_i h1 h2; simp only [ev, e, h1, h2]; exact makeSliceT_sound h ho
    · cases h
  · rename_i e
    split at h
    · rename_i h1; simp only [ev, e, h1]; exact sliceT_sound h ho
    · cases h
  · rename_i e
    split at h
    · rename_i h1 h2; simp only [ev, e, h1, h2]; exact sliceT_sound h ho
    · cases h
  · rename_i e
    split at h
    · rename_i h1 h2; simp only [ev, e, h1, h2]; exact sliceT_sound h ho
    · cases h
  · rename_i e
    split at h
    · rename_i h1 h2 h3; simp only [ev, e, h1, h2, h3]; exact sliceT_sound h ho
    · cases h
  · rename_i e
    split at h
    · rename_i h1 h2; simp only [ev, e, h1, h2]; exact indexAddrT_sound h ho
    · cases h
  · rename_i e
    split at h
    · rename_i h1 h2; simp only [ev, e, h1, h2]; exact indexT_sound h ho
    · cases h
  · rename_i e
    split at h
    · rename_i hb
      split at h
      · rename_i h1; simp only [ev, e, hb, h1]; exact builtinT_sound h ho
      · cases h
    · cases h
  · exact plain_inv h

section
variable {P : Program} {R : CallRel}
theorem callR_inv {s : AS} {as : List AV} {r : AV} {q : Res} {K : Res → Prop} (h : callR s as r = some q) (hK : K q) : callK s as r K := by
  unfold callR at h
  unfold callK
  split at h
  · rename_i h1; obtain rfl := Option.some.inj h; rw [h1]; exact hK
  · rename_i h1 h2; obtain rfl := Option.some.inj h; rw [h1, h2]; exact hK
  · cases h
theorem callT_sound {s : AS} {g : FuncId} {as : List AV} {orc orc' : Orc} {r : Res} {ob : List Prop} {K : Res → Prop} (h : callT R s g as orc = some (r, orc', ob)) (ho : All ob) (hK : K r) : acall R s g as K := by
  unfold callT at h
  split at h
  · split at h
    · rename_i h1
      simp only [Option.some.injEq, Prod.mk.injEq] at h
      obtain ⟨rfl, rfl, rfl⟩ := h
      exact .inl ⟨_, _, ArgsTo.memMono (fun i a hi => get_sub hi) ho.1, ho.2.1, callR_inv h1 hK⟩
    · cases h
  · split at h
    · rename_i h0 h1
      simp only [Option.some.injEq, Prod.mk.injEq] at h
      obtain ⟨rfl, rfl, rfl⟩ := h
      exact acall_same ho.1 h0 (callR_inv h1 hK)
    · cases h
  · split at h
    · split at h
      · rename_i hg
        simp only [Option.some.injEq, Prod.mk.injEq] at h
        obtain ⟨rfl, rfl, rfl⟩ := h
        obtain ⟨⟨ys, g1, g2, g3, g4⟩, _⟩ := ho
        refine .inr ⟨_, _, _, _, _, ys, rfl, hg, g1, g2, g3, ?_⟩
        unfold mutRes
        rw [g4]
        exact hK
      · cases h
    · cases h
  · cases h
theorem opT_sound {o : Oper} {s : AS} {orc orc' : Orc} {r : Res} {ob : List Prop} {K : Res → Prop} (h : opT P R o s orc = some (r, orc', ob)) (ho : All ob) (hK : K r) : aop P R o s K := by
  unfold opT at h
  unfold aop
  split at h
  · rename_i f args ts e
    rw [e]
    split at h
    · rename_i x hx
      show optK (callee s _) _
      rw [hx]
      exact callT_sound h ho hK
    · cases h
  · rename_i hn
    split
    · rename_i f args ts e; exact (hn f args ts e).elim
    · rw [evT_sound h ho]; exact hK
theorem opsT_sound {all : Array Oper} {K : AS → Log → Prop} : ∀ {l : List Oper} {s : AS} {lg : Log} {orc : Orc} {s' : AS} {lg' : Log} {orc' : Orc} {ob : List Prop}, opsT P R all l s lg orc = some (s', lg', orc', ob) → All ob → K s' lg' → awops P R all l s lg K
  | [], s, lg, orc, s', lg', orc', ob, h, ho, hK => by
    simp only [opsT, Option.some.injEq, Prod.mk.injEq] at h
    obtain ⟨rfl, rfl, rfl, rfl⟩ := h
    exact hK
  | o :: rest, s, lg, orc, s', lg', orc', ob, h, ho, hK => by
    unfold opsT at h
    unfold awops
    split at h
    · rename_i e
      rw [e]
      split at h
      · rename_i h1
        split at h
        · rename_i h2
          simp only [Option.some.injEq, Prod.mk.injEq] at h
          obtain ⟨rfl, rfl, rfl, rfl⟩ := h
          obtain ⟨o1, o2⟩ := All.append ho
          exact opT_sound h1 o1 (opsT_sound h2 o2 hK)
        · cases h
      · cases h
    · rename_i j want e
      rw [e]
      split at h
      · rename_i hb
        show optK (guardVal all s j) _
        rw [hb]
        exact opsT_sound h ho hK
      · rename_i b q orc1 hb
        show optK (guardVal all s j) _
        rw [hb]
        show Br (some b == some want) _ _
        have ew : (some b == some want) = (b == want) := by cases b <;> cases want <;> rfl
        rw [ew]
        unfold Br
        split at h
        · rename_i hw
          split at h
          · rename_i h1
            split at h
            · rename_i h2
              simp only [Option.some.injEq, Prod.mk.injEq] at h
              obtain ⟨rfl, rfl, rfl, rfl⟩ := h
              obtain ⟨o0, o1, o2⟩ := (⟨ho.1, All.append ho.2⟩ : _ ∧ _ ∧ _)
              rw [o0, if_pos hw]
              exact opT_sound h1 o1 (opsT_sound h2 o2 hK)
            · cases h
          · cases h
        · rename_i hw
          split at h
          · rename_i h2
            simp only [Option.some.injEq, Prod.mk.injEq] at h
            obtain ⟨rfl, rfl, rfl, rfl⟩ := h
            rw [ho.1, if_neg hw]
            exact opsT_sound h2 ho.2 hK
          · cases h
      · cases h
/-- What a stop asks for. -/
def stopQ (P : Program) (R : CallRel) (Q : Ex → AS → Prop) (Is : List (AS → Prop)) : Stop → Prop
  | .done e s => Q e s
  | .loop d c k s => awp P R (.loop c) (kq P R Q (Is.drop d) k) s
  | .back d s => match Is.drop d with
    | I :: _ => I s
    | [] => False
def todoQ (P : Program) (R : CallRel) (Q : Ex → AS → Prop) (Is : List (AS → Prop)) (k : List Fr) (s : AS) : Todo → Prop
  | .run c => awp P R c (kq P R Q Is k) s
  | .pop e => kq P R Q Is k e s
def lbs : List Fr → Nat
  | [] => 0
  | .lb :: k => lbs k + 1
  | _ :: k => lbs k
theorem more_inv {ob : List Prop} {x : Option (Stop × Orc × List Prop)} {st : Stop} {orc : Orc} {ob' : List Prop} (h : more ob x = some (st, orc, ob')) : ∃ ob2, x = some (st, orc, ob2) ∧ ob' = ob ++ ob2 := by
  unfold more at h
  split at h
  · simp only [Option.some.injEq, Prod.mk.injEq] at h
    obtain ⟨rfl, rfl, rfl⟩ := h
    exact ⟨_, rfl, rfl⟩
  · cases h
theorem ups_inv {x : Option (Stop × Orc × List Prop)} {st : Stop} {orc : Orc} {ob' : List Prop} (h : ups x = some (st, orc, ob')) : ∃ st', x = some (st', orc, ob') ∧ st = st'.up := by
  unfold ups at h
  split at h
  · simp only [Option.some.injEq, Prod.mk.injEq] at h
    obtain ⟨rfl, rfl, rfl⟩ := h
    exact ⟨_, rfl, rfl⟩
  · cases h
theorem stopQ_up {Q : Ex → AS → Prop} {I : AS → Prop} {Is : List (AS → Prop)} {st : Stop} (h : stopQ P R Q (I :: Is) st.up) : stopQ P R Q Is st := by
  cases st with
  | done e s => exact h
  | loop d c k s => exact h
  | back d s => exact h
theorem runT_sound {Q : Ex → AS → Prop} : ∀ {n : Nat} {t : Todo} {Is : List (AS → Prop)} {k : List Fr} {s : AS} {orc : Orc} {st : Stop} {orc' : Orc} {ob : List Prop}, Nat.ble (lbs k) Is.length = true → runT P R n t k s orc = some (st, orc', ob) → All ob → stopQ P R Q Is st → todoQ P R Q Is k s t
  | 0, t, Is, k, s, orc, st, orc', ob, hl, h, ho, hK => by unfold runT at h; cases h
  | n + 1, .run c, Is, k, s, orc, st, orc', ob, hl, h, ho, hK => by
    unfold runT at h
    show awp P R c (kq P R Q Is k) s
    cases c with
    | skip => exact runT_sound (t := .pop .normal) hl h ho hK
    | exit i => exact runT_sound (t := .pop (.exit i)) hl h ho hK
    | ret => exact runT_sound (t := .pop .ret) hl h ho hK
    | region id ops dr =>
      simp only at h
      split at h
      · rename_i s1 lg orc1 ob1 h1
        split at h
        · rename_i hd
          obtain ⟨ob2, h2, rfl⟩ := more_inv h
          obtain ⟨o1, o2⟩ := All.append ho
          have hn := runT_sound (t := .pop .normal) hl h2 o2 hK
          cases dr with
          | false => exact opsT_sound h1 o1 hn
          | true =>
            simp only [Bool.not_true, Bool.false_or, drawOkB, Bool.and_eq_true] at hd
            exact opsT_sound (K := fun s' lg => DrawOk ops lg ∧ kq P R Q Is k .normal s') h1 o1 ⟨⟨hd.1.1, hd.1.2, hd.2⟩, hn⟩
        · cases h
      · cases h
    | seq x y => exact runT_sound (t := .run x) (k := .sq y :: k) hl h ho hK
    | cond c x y =>
      simp only at h
      show optK (condVal s c) _
      split at h
      · rename_i b orc1 hb
        obtain ⟨ob2, h2, rfl⟩ := more_inv h
        rw [hb]
        obtain ⟨rfl, ho⟩ := ho
        exact runT_sound (t := .run x) hl h2 ho hK
      · rename_i b orc1 hb
        obtain ⟨ob2, h2, rfl⟩ := more_inv h
        rw [hb]
        obtain ⟨rfl, ho⟩ := ho
        exact runT_sound (t := .run y) hl h2 ho hK
      · cases h
    | block id x => exact runT_sound (t := .run x) (k := .bl id :: k) hl h ho hK
    | loop x =>
      simp only [Option.some.injEq, Prod.mk.injEq] at h
      obtain ⟨rfl, rfl, rfl⟩ := h
      exact hK
    | _ => cases h
  | n + 1, .pop e, Is, k, s, orc, st, orc', ob, hl, h, ho, hK => by
    unfold runT at h
    show kq P R Q Is k e s
    split at h
    · simp only [Option.some.injEq, Prod.mk.injEq] at h
      obtain ⟨rfl, rfl, rfl⟩ := h
      cases Is <;> exact hK
    · rename_i y k'
      have := runT_sound (t := .run y) (k := k') hl h ho hK
      cases Is <;> exact this
    · rename_i id k'
      have := runT_sound (t := .pop .normal) (k := k') hl h ho hK
      cases Is <;> exact this
    · rename_i k'
      simp only [Option.some.injEq, Prod.mk.injEq] at h
      obtain ⟨rfl, rfl, rfl⟩ := h
      cases Is with
      | nil => exact hK
      | cons I Is => exact hK
    · rename_i i y k'
      have := runT_sound (t := .pop (.exit i)) (k := k') hl h ho hK
      cases Is <;> exact this
    · rename_i i id k'
      have : Br (i == id) (kq P R Q Is k' .normal s) (kq P R Q Is k' (.exit i) s) := by
        unfold Br
        split at h
        · rename_i hi; rw [if_pos hi]; exact runT_sound (t := .pop .normal) (k := k') hl h ho hK
        · rename_i hi; rw [if_neg hi]; exact runT_sound (t := .pop (.exit i)) (k := k') hl h ho hK
      cases Is <;> exact this
    · rename_i i k'
      obtain ⟨st', h2, rfl⟩ := ups_inv h
      cases Is with
      | nil => cases hl
      | cons I Is => exact runT_sound (t := .pop (.exit i)) (k := k') (Is := Is) hl h2 ho (stopQ_up hK)
    · rename_i k'
      obtain ⟨st', h2, rfl⟩ := ups_inv h
      cases Is with
      | nil => cases hl
      | cons I Is => exact runT_sound (t := .pop .ret) (k := k') (Is := Is) hl h2 ho (stopQ_up hK)
    · rename_i f k' hn
      cases f with
      | lb => first | exact (hn _ rfl).elim | exact (hn rfl).elim | exact hn.elim
      | sq y =>
        have := runT_sound (t := .pop .ret) (k := k') hl h ho hK
        cases Is <;> exact this
      | bl id =>
        have := runT_sound (t := .pop .ret) (k := k') hl h ho hK
        cases Is <;> exact this
end
end Go.Ab
