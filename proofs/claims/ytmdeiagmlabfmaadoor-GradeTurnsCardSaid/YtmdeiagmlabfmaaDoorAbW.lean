/- The abstract interpreter: shorter words of the printed proofs: an oracle and what is asked along it, as one. -/
import Derived.Test.YtmdeiagmlabfmaaDoorAbV
set_option linter.unusedVariables false
set_option linter.unusedSimpArgs false
set_option linter.unusedSectionVars false

namespace Go.Ab
structure At (os : Orc) (ps : List Prop) : Prop where
  all : All ps
theorem all_append {p q : List Prop} (h : All p) (h' : All q) : All (p ++ q) := by
  induction p with
  | nil => exact h'
  | cons a r ih => exact ⟨h.1, ih h.2⟩
theorem az : At [] [] := ⟨trivial⟩
theorem ac {o o' : Orc} {p p' : List Prop} (h : At o p) (h' : At o' p') : At (o ++ o') (p ++ p') := ⟨all_append h.all h'.all⟩
theorem abt {b : Bool} (h : b = true) : At [.bit true] [b = true] := ⟨h, trivial⟩
theorem abf {b : Bool} (h : b = false) : At [.bit false] [b = false] := ⟨h, trivial⟩
theorem abtt : At [.bit true] [true = true] := ⟨rfl, trivial⟩
theorem abff : At [.bit false] [false = false] := ⟨rfl, trivial⟩
section
variable (P : Program) (t : TypeId) {k : IntKind} {a b : Int}
theorem oadd (h : k.wrap (a + b) = a + b) : At [.val (.sc (.int k (a + b)))] [bin P .add t (.sc (.int k a)) (.sc (.int k b)) = some (.sc (.int k (a + b)))] := ⟨ob_add h, trivial⟩
theorem osub (h : k.wrap (a - b) = a - b) : At [.val (.sc (.int k (a - b)))] [bin P .sub t (.sc (.int k a)) (.sc (.int k b)) = some (.sc (.int k (a - b)))] := ⟨ob_sub h, trivial⟩
theorem omul (h : k.wrap (a * b) = a * b) : At [.val (.sc (.int k (a * b)))] [bin P .mul t (.sc (.int k a)) (.sc (.int k b)) = some (.sc (.int k (a * b)))] := ⟨ob_mul h, trivial⟩
theorem oquo (h0 : b ≠ 0) (h : k.wrap (a.tdiv b) = a.tdiv b) : At [.val (.sc (.int k (a.tdiv b)))] [bin P .quo t (.sc (.int k a)) (.sc (.int k b)) = some (.sc (.int k (a.tdiv b)))] := ⟨ob_quo h0 h, trivial⟩
theorem orem (k : IntKind) (a b : Int) (h0 : b ≠ 0) : At [.val (.sc (.int k (a.tmod b)))] [bin P .rem t (.sc (.int k a)) (.sc (.int k b)) = some (.sc (.int k (a.tmod b)))] := ⟨ob_rem h0, trivial⟩
theorem oand3 (h : IntKind.i64.wrap a = a) : At [.val (int (a % 4))] [bin P .and t (int a) (int 3) = some (int (a % 4))] := ⟨ob_and3 h, trivial⟩
end
theorem oneg {k : IntKind} {a : Int} (h : k.wrap (-a) = -a) : At [.val (.sc (.int k (-a)))] [un .neg (.sc (.int k a)) = some (.sc (.int k (-a)))] := ⟨ob_neg h, trivial⟩
theorem onegw (k : IntKind) (a : Int) : At [.val (.sc (.int k (k.wrap (-a))))] [un .neg (.sc (.int k a)) = some (.sc (.int k (k.wrap (-a))))] := ⟨ob_negw, trivial⟩
theorem omax (k : IntKind) (a b : Int) : At [.val (.sc (.int k (max a b)))] [minmax true a [.sc (.int k b)] = some (max a b)] := ⟨ob_max, trivial⟩
theorem omin (k : IntKind) (a b : Int) : At [.val (.sc (.int k (min a b)))] [minmax false a [.sc (.int k b)] = some (min a b)] := ⟨ob_min, trivial⟩
section
variable {α : Type} (f : α → List AV) {l : List α} {i : Int}
theorem oidx [Inhabited α] (h : Idx i l.length) : At [.cells (f (ai l i))] [0 ≤ i ∧ (l.map f)[i.toNat]? = some (f (ai l i))] := ⟨ob_idx h, trivial⟩
theorem oown {n : Nat} (e : n = l.length) (h : Idx i l.length) : At [] [0 ≤ i ∧ i < ((n : Nat) : Int) ∧ 0 < (l.map f).length] := ⟨ob_own e h, trivial⟩
theorem orow [Inhabited α] (h : Idx i l.length) : At [.cells (f (ai l i))] [(l.map f)[0 + i.toNat]? = some (f (ai l i))] := ⟨ob_row h, trivial⟩
theorem oset [Inhabited α] (v : α) (h : Idx i l.length) : At [.cells (f (ai l i)), .rows 0 ((l.set i.toNat v).map f)] [(l.map f)[0 + i.toNat]? = some (f (ai l i)) ∧ (l.map f).set (0 + i.toNat) (f v) = (l.set i.toNat v).map f] := ⟨ob_set h, trivial⟩
theorem ofz (l : List α) {n : Nat} (e : n = l.length) : At [.rows 0 (l.map f)] [0 + n ≤ (l.map f).length ∧ ((l.map f).drop 0).take n = l.map f] := ⟨ob_own0 e, trivial⟩
theorem olen (P : Program) (t : TypeId) (n : Nat) (l : List α) (h : (telem P t).isSome = true) : At [.val (int (l.length : Nat))] [lenE P ⟨[], [], 0⟩ t (.sl n (l.map f)) = some ⟨int (l.length : Nat), [], 0, []⟩] := ⟨ob_len h, trivial⟩
theorem ocut0 (n : Nat) {b : Int} (h : Slc 0 b l.length) : At [.val (.sl n ((cut l 0 b).map f))] [0 ≤ ((0 : Nat) : Int) ∧ ((0 : Nat) : Int) ≤ b ∧ b ≤ ((l.map f).length : Nat) ∧ ((l.map f).take b.toNat).drop ((0 : Nat) : Int).toNat = (cut l 0 b).map f] := ⟨ob_cut0 h, trivial⟩
theorem oapp {t u : List α} {b n : Nat} (e : n = t.length) (h : Cap b (t ++ u).length) : At [.rows (t ++ u).length ((t ++ u).map f)] [(t ++ u).length * b ≤ lim ∧ 0 + n ≤ (t.map f).length ∧ ((t.map f).drop 0).take n ++ u.map f = (t ++ u).map f ∧ n + (u.map f).length = (t ++ u).length] := ⟨ob_app e h, trivial⟩
theorem oappo {t u : List α} {b n m : Nat} (e : n = t.length) (e' : m = u.length) (h : Cap b (t ++ u).length) : At [.rows (t ++ u).length ((t ++ u).map f)] [(t ++ u).length * b ≤ lim ∧ 0 + n ≤ (t.map f).length ∧ ((t.map f).drop 0).take n ++ ((u.map f).drop 0).take m = (t ++ u).map f ∧ n + (((u.map f).drop 0).take m).length = (t ++ u).length, 0 + m ≤ (u.map f).length] := ⟨ob_appo e e' h, ob_src e', trivial⟩
theorem omake {v : α} {z : List AV} {l : Int} {b : Nat} (hz : z = f v) (h0 : 0 ≤ l) (h1 : l * b ≤ 140737488355328) (h2 : l ≤ 9223372036854775807) :
    At [.rows (List.replicate l.toNat v).length ((List.replicate l.toNat v).map f)] [l ≤ l ∧ 0 ≤ l ∧ l * b ≤ (lim : Int) ∧ l ≤ 9223372036854775807 ∧ l.toNat = (List.replicate l.toNat v).length ∧ List.replicate (List.replicate l.toNat v).length z = (List.replicate l.toNat v).map f] := ⟨ob_make hz (Int.le_refl _) h0 h1 h2, trivial⟩
end
theorem olens (P : Program) (t : TypeId) (b : ByteArray) (h : tstr P t = true) : At [.val (int (b.size : Nat))] [lenE P ⟨[], [], 0⟩ t (str b) = some ⟨int (b.size : Nat), [], 0, []⟩] := ⟨ob_lenstr h, trivial⟩
theorem oleno (P : Program) (t : TypeId) (i o n m : Nat) (e : n = m) (h : (telem P t).isSome = true) : At [.val (int (m : Nat))] [lenE P ⟨[], [], 0⟩ t (.own i o n) = some ⟨int (m : Nat), [], 0, []⟩] := ⟨ob_lenown e h, trivial⟩
theorem obtt {s : ByteArray} {i : Int} (h : Idx i s.size) : At [.val (.sc (.int .u8 (bt s i)))] [0 ≤ i ∧ ∃ c, s[i.toNat]? = some c ∧ AV.sc (.int .u8 (bt s i)) = .sc (.int .u8 c.toNat)] := ⟨ob_bt h, trivial⟩
theorem ocs {P : Program} {X : CallRel} {f : FuncId} {x : List AV} {r : AV} (h : Ret P X f x r) : At [.same r] [Ret P X f x r] := ⟨h, trivial⟩
theorem ocl {P : Program} {X : CallRel} {f : FuncId} {x : List AV} {r : AV} (ids : List Nat) (mem : List (Nat × Arr)) (y : List AV) (p : ArgsTo mem y x) (h : Ret P X f x r) : At [.call ids x r] [ArgsTo mem y x, Ret P X f x r] := ⟨p, h, trivial⟩

/-! The ends of a run. -/
section
variable {P : Program} {R : CallRel}
theorem sr {rv : Array ResultVar} {ids : List Nat} {t : Todo} {Is : List (AS → Prop)} {k : List Fr} {s : AS} {orc : Orc} {vs : List AV} {mem : List (Nat × Arr)} {ob : List Prop} {r : AV}
    (a : At orc ob) (h : seenR P rv ids (runT P R 3000 t k s orc) = some (vs, mem, ob)) (hl : Nat.ble (lbs k) Is.length = true) (hr : retTs mem vs (unpack vs r) [] fun _ => packs vs r = true) : todoQ P R (retPost P rv r) Is k s t := seg_ret h hl a.all hr
theorem sl {Q : Ex → AS → Prop} {ts ids : List Nat} {t : Todo} {Is : List (AS → Prop)} {k : List Fr} {s : AS} {orc : Orc} {d : Nat} {c : Code} {k' : List Fr} {s0 S : AS} {ob : List Prop}
    (a : At orc ob) (h : seenL ts ids (runT P R 3000 t k s orc) = some (d, c, k', s0, ob)) (hl : Nat.ble (lbs k) Is.length = true) (hw : Weak s0 S) (hq : awp P R (.loop c) (kq P R Q (Is.drop d) k') S) : todoQ P R Q Is k s t := seg_loop h hl a.all hw hq
theorem sb {Q : Ex → AS → Prop} {ts ids : List Nat} {t : Todo} {Is Is' : List (AS → Prop)} {k : List Fr} {s : AS} {orc : Orc} {d : Nat} {s0 : AS} {ob : List Prop} {α : Type} {p : α → Prop} {μ : α → Nat} {S : α → AS} {x : α}
    (a : At orc ob) (h : seenB ts ids (runT P R 3000 t k s orc) = some (d, s0, ob)) (hl : Nat.ble (lbs k) Is.length = true) (hi : Is.drop d = backI p μ S x :: Is') (y : α) (hp : p y) (hm : μ y < μ x) (hw : Weak s0 (S y)) : todoQ P R Q Is k s t := seg_back h hl a.all hi y hp hm hw
end
/-- What is to be shown of loop m of a function. -/
abbrev loopQ (P : Program) (X : CallRel) (f : Func) (m : Nat) (r : AV) (Is : List (AS → Prop)) (s : AS) : Prop := awp P (Ret P X) (.loop (lp (bodyOf f) m).1) (kq P (Ret P X) (retPost P f.results r) Is (lp (bodyOf f) m).2) s
end Go.Ab
