/- The abstract interpreter: what simp unfolds when it runs code. -/
import Derived.Test.YtmdeiagmlabfmaaDoorAb32
import Derived.IntWalk
set_option linter.unusedVariables false
set_option linter.unusedSimpArgs false
set_option linter.unusedSectionVars false

namespace Go.Ab
abbrev int (n : Int) : AV := .sc (.int .i64 n)
abbrev boo (b : Bool) : AV := .sc (.bool b)
abbrev str (b : ByteArray) : AV := .sc (.string b)
@[simp] theorem owns_jk : owns .jk = false := rfl
@[simp] theorem owns_sc (v : Value) : owns (.sc v) = false := rfl
@[simp] theorem owns_nil : owns .nil = false := rfl
@[simp] theorem owns_sl (n : Nat) (xs : List (List AV)) : owns (.sl n xs) = false := rfl
@[simp] theorem owns_fr (n : Nat) (xs : List (List AV)) : owns (.fr n xs) = false := rfl
@[simp] theorem owns_ref (cs : List AV) : owns (.ref cs) = false := rfl
@[simp] theorem owns_own (i j k : Nat) : owns (.own i j k) = true := rfl
@[simp] theorem owns_ptr (i j k : Nat) : owns (.ptr i j k) = true := rfl
@[simp] theorem owns_fn (f : FuncId) (x y : List AV) : owns (.fn f x y) = true := rfl
@[simp] theorem owns_agg (cs : List AV) : owns (.agg cs) = true := rfl
@[simp] theorem owns_tup (cs : List AV) : owns (.tup cs) = true := rfl
section
variable (P : Program) (t : TypeId) (k : IntKind) (a b : Int)
@[simp] theorem bin_add : bin P .add t (.sc (.int k a)) (.sc (.int k b)) = some (.sc (.int k (k.wrap (a + b)))) := by simp [bin, binI]
@[simp] theorem bin_sub : bin P .sub t (.sc (.int k a)) (.sc (.int k b)) = some (.sc (.int k (k.wrap (a - b)))) := by simp [bin, binI]
@[simp] theorem bin_mul : bin P .mul t (.sc (.int k a)) (.sc (.int k b)) = some (.sc (.int k (k.wrap (a * b)))) := by simp [bin, binI]
@[simp] theorem bin_quo (h : b ≠ 0) : bin P .quo t (.sc (.int k a)) (.sc (.int k b)) = some (.sc (.int k (k.wrap (a.tdiv b)))) := by simp [bin, binI, h]
@[simp] theorem bin_rem (h : b ≠ 0) : bin P .rem t (.sc (.int k a)) (.sc (.int k b)) = some (.sc (.int k (a.tmod b))) := by simp [bin, binI, h]
@[simp] theorem bin_and : bin P .and t (.sc (.int k a)) (.sc (.int k b)) = some (.sc (.int k (k.wrap (BitVec.ofInt k.bits a &&& BitVec.ofInt k.bits b).toNat))) := by simp [bin, binI]
@[simp] theorem bin_or : bin P .or t (.sc (.int k a)) (.sc (.int k b)) = some (.sc (.int k (k.wrap (BitVec.ofInt k.bits a ||| BitVec.ofInt k.bits b).toNat))) := by simp [bin, binI]
@[simp] theorem bin_xor : bin P .xor t (.sc (.int k a)) (.sc (.int k b)) = some (.sc (.int k (k.wrap (BitVec.ofInt k.bits a ^^^ BitVec.ofInt k.bits b).toNat))) := by simp [bin, binI]
@[simp] theorem bin_eql : bin P .eql t (.sc (.int k a)) (.sc (.int k b)) = some (.sc (.bool (decide (a = b)))) := by simp [bin, binI]; rfl
@[simp] theorem bin_neq : bin P .neq t (.sc (.int k a)) (.sc (.int k b)) = some (.sc (.bool (!decide (a = b)))) := by simp [bin, binI]; rfl
@[simp] theorem bin_lss : bin P .lss t (.sc (.int k a)) (.sc (.int k b)) = some (.sc (.bool (decide (a < b)))) := by simp [bin, binI]
@[simp] theorem bin_leq : bin P .leq t (.sc (.int k a)) (.sc (.int k b)) = some (.sc (.bool (decide (a ≤ b)))) := by simp [bin, binI]
@[simp] theorem bin_gtr : bin P .gtr t (.sc (.int k a)) (.sc (.int k b)) = some (.sc (.bool (decide (b < a)))) := by simp [bin, binI]
@[simp] theorem bin_geq : bin P .geq t (.sc (.int k a)) (.sc (.int k b)) = some (.sc (.bool (decide (b ≤ a)))) := by simp [bin, binI]
@[simp] theorem bin_shl (k' : IntKind) (h : 0 ≤ b) : bin P .shl t (.sc (.int k a)) (.sc (.int k' b)) = some (.sc (.int k (k.wrap (a * 2 ^ (min b.toNat k.bits))))) := by simp [bin, show ¬ b < 0 by omega]
@[simp] theorem bin_shr (k' : IntKind) (h : 0 ≤ b) : bin P .shr t (.sc (.int k a)) (.sc (.int k' b)) = some (.sc (.int k (a.fdiv (2 ^ (min b.toNat k.bits))))) := by simp [bin, show ¬ b < 0 by omega]
end
/-- K is not looked into. -/
def Tok {α : Type} (_ : α → Prop) : Type := Unit
def acallT (R : CallRel) (s : AS) (g : FuncId) (as : List AV) (K : Res → Prop) (_ : Tok K) : Prop := acall R s g as K
def tok {α : Type} (K : α → Prop) : Tok K := ()
@[congr] theorem acallT_congr {R : CallRel} {s s' : AS} {g g' : FuncId} {as as' : List AV} {K : Res → Prop} {u : Tok K} (h1 : s = s') (h2 : g = g') (h3 : as = as') : acallT R s g as K u = acallT R s' g' as' K u := by rw [h1, h2, h3]
@[simp ↓] theorem aop_callT (P : Program) (R : CallRel) (d : Option Tmp) (ty : TypeId) (pos : String) (af : Array Edge) (g : Option (Nat × Bool)) (s : AS) (K : Res → Prop) (f : Operand) (xs : Array Operand) (ts : Array TypeId) :
    aop P R ⟨d, .call ⟨.value f, xs, ts⟩, ty, pos, af, g⟩ s K = optK (callee s ⟨.value f, xs, ts⟩) fun x => acallT R s x.1 x.2 K (tok K) := propext Iff.rfl
theorem call_same {R : CallRel} {s : AS} {g : FuncId} {as : List AV} {r : AV} {K : Res → Prop} {u : Tok K} (hR : R g as r) (ho : as.all sameB = true) (hk : callK s as r K) : acallT R s g as K u := acall_same hR ho hk
attribute [-simp] aop_call awp_region awp_draw
@[simp ↓] theorem awp_regionL (P : Program) (R : CallRel) (i : Nat) (l : List Oper) (Q : Ex → AS → Prop) (s : AS) : awp P R (.region i l.toArray false) Q s = awops P R l.toArray l s [] fun s' _ => Q .normal s' := propext Iff.rfl
@[simp ↓] theorem awp_drawL (P : Program) (R : CallRel) (i : Nat) (l : List Oper) (Q : Ex → AS → Prop) (s : AS) : awp P R (.region i l.toArray true) Q s = awops P R l.toArray l s [] fun s' lg => DrawOk l.toArray lg ∧ Q .normal s' := propext Iff.rfl
attribute [simp ↓] optK_some Br_true Br_false then_normal then_exit then_ret inBlock_normal inBlock_exit inBlock_ret awp_skip awp_seq awp_cond awp_block awp_exit awp_ret aop_move aop_assign aop_pick aop_alloc aop_box aop_build aop_buildSlice aop_load aop_store aop_nilCheck aop_binOp aop_unOp aop_convert aop_makeFunc aop_makeSlice aop_slice00 aop_slice10 aop_slice01 aop_slice11 aop_fieldAddr aop_field aop_indexAddr aop_index aop_extract aop_builtin awops_nil awops_cons awops_guard
@[simp ↓] theorem callK_br (s : AS) (xs : List AV) (r : AV) (K : Res → Prop) : callK s xs r K = Br (noref r) (K ⟨r, [], s.nx, if xs.any owns then s.mem.map (·.1) else []⟩)
    (optK (frzOf s.mem xs) fun z => K ⟨(imp s.nx r).1, (imp s.nx r).2.1 ++ z, (imp s.nx r).2.2, if xs.any owns then s.mem.map (·.1) else []⟩) := by
  unfold callK
  cases noref r <;> cases frzOf s.mem xs <;> rfl
attribute [simp] loadE storeE behind indexAddrE indexSlE tarr lenE cok Value.oneCell' opr get AS.put AS.junk guardVal condVal callee constAV constCell oprs oprs2 allocE boxE buildE builtinE fieldAddrE fieldE bound un elems minmax fillParts init number nilE extrE resVars resVar retPost unpack retTs retCs packs argP argsP noref noref1 isSc frzOf frzC flatA isFr imp imp1 imps impCell impCells
section
variable (mem : List (Nat × Arr)) (used : List Nat) (K : List Nat → Prop)
@[simp] theorem retC_sc (v : Value) (a : AV) : retC mem (.sc v) a used K = (.sc v = a ∧ K used) := by cases a <;> simp [retC]
@[simp] theorem retC_sl (n : Nat) (xs : List (List AV)) (a : AV) : retC mem (.sl n xs) a used K = (.sl n xs = a ∧ K used) := by cases a <;> simp [retC]
@[simp] theorem retC_ref (cs : List AV) (a : AV) : retC mem (.ref cs) a used K = (.ref cs = a ∧ K used) := by cases a <;> simp [retC]
@[simp] theorem retC_nil_sl (n : Nat) (xs : List (List AV)) : retC mem .nil (.sl n xs) used K = (xs = [] ∧ K used) := by simp [retC]
@[simp] theorem retC_nil_fr (n : Nat) (xs : List (List AV)) : retC mem .nil (.fr n xs) used K = (xs = [] ∧ K used) := by simp [retC]
@[simp] theorem retC_own_fr (id off len sz : Nat) (xs : List (List AV)) : retC mem (.own id off len) (.fr sz xs) used K = (match get mem id with
    | some (.row sz' ys) => sz = sz' ∧ off + len ≤ ys.length ∧ xs = (ys.drop off).take len ∧ used.contains id = false ∧ K (id :: used)
    | _ => False) := propext Iff.rfl
@[simp] theorem retC_own_sl (id off len sz : Nat) (xs : List (List AV)) : retC mem (.own id off len) (.sl sz xs) used K = (match get mem id with
    | some (.row sz' ys) => sz = sz' ∧ off + len ≤ ys.length ∧ xs = (ys.drop off).take len ∧ used.contains id = false ∧ K (id :: used)
    | some (.frz sz' ys) => sz = sz' ∧ off + len ≤ ys.length ∧ xs = (ys.drop off).take len ∧ K used
    | _ => False) := propext Iff.rfl
@[simp] theorem argP_sc (n : Nat) (v : Value) (a : AV) : argP mem (n + 1) (.sc v) a = (.sc v = a) := by cases a <;> simp [argP]
@[simp] theorem argP_sl (n m : Nat) (xs : List (List AV)) (a : AV) : argP mem (n + 1) (.sl m xs) a = (.sl m xs = a) := by cases a <;> simp [argP]
@[simp] theorem argP_ref (n : Nat) (cs : List AV) (a : AV) : argP mem (n + 1) (.ref cs) a = (.ref cs = a) := by cases a <;> simp [argP]
@[simp] theorem argP_agg (n : Nat) (cs cs' : List AV) : argP mem (n + 1) (.agg cs) (.agg cs') = argsP mem n cs cs' := by simp [argP]
@[simp] theorem argP_fn (n : Nat) (f f' : FuncId) (x y x' y' : List AV) : argP mem (n + 1) (.fn f x y) (.fn f' x' y') = (f = f' ∧ argsP mem n x x' ∧ argsP mem n y y') := by simp [argP]
@[simp] theorem argP_nil_sl (n m : Nat) (xs : List (List AV)) : argP mem (n + 1) .nil (.sl m xs) = (xs = []) := by simp [argP]
@[simp] theorem argP_own_sl (n id off len sz : Nat) (xs : List (List AV)) : argP mem (n + 1) (.own id off len) (.sl sz xs) = (match get mem id with
      | some (.row sz' ys) => (len = 0 ∧ xs = []) ∨ (sz = sz' ∧ off + len ≤ ys.length ∧ xs = (ys.drop off).take len)
      | some (.frz sz' ys) => sz = sz' ∧ off + len ≤ ys.length ∧ xs = (ys.drop off).take len
      | _ => False) := by rw [argP]; rfl
@[simp] theorem argP_ptr (n id i j : Nat) (cs : List AV) : argP mem (n + 1) (.ptr id i j) (.ref cs) = (match get mem id with
      | some (.box cs0) => i = 0 ∧ argsP mem n (cs0.drop j) cs
      | _ => False) := by rw [argP]; rfl
end
section
variable (σ : List (Nat × Option Nat)) (s : AS)
@[simp] theorem Wk_jk (a : AV) : Wk σ s a .jk = True := by simp [Wk]
@[simp] theorem Wk_sc (v v' : Value) : Wk σ s (.sc v) (.sc v') = (v = v') := by simp [Wk]
@[simp] theorem Wk_sl (n n' : Nat) (xs xs' : List (List AV)) : Wk σ s (.sl n xs) (.sl n' xs') = (n = n' ∧ xs = xs') := by simp [Wk]
@[simp] theorem Wk_ref (cs cs' : List AV) : Wk σ s (.ref cs) (.ref cs') = (cs = cs') := by simp [Wk]
@[simp] theorem Wk_nil : Wk σ s .nil .nil = True := by simp [Wk]
@[simp] theorem Wk_own (j o l i o' l' : Nat) : Wk σ s (.own j o l) (.own i o' l') = (get σ i = some (some j) ∧ o = o' ∧ l = l') := by simp [Wk]
@[simp] theorem Wk_nil_own (i o l : Nat) : Wk σ s .nil (.own i o l) = (get σ i = some none ∧ o = 0 ∧ l = 0) := by simp [Wk]
@[simp] theorem Wk_nil_sl (n : Nat) (xs : List (List AV)) : Wk σ s .nil (.sl n xs) = (xs = []) := by simp [Wk]
@[simp] theorem Wk_own_sl (j o l n : Nat) (xs : List (List AV)) : Wk σ s (.own j o l) (.sl n xs) = (∃ xs0, get s.mem j = some (.frz n xs0) ∧ o + l ≤ xs0.length ∧ xs = (xs0.drop o).take l) := by simp [Wk]
@[simp] theorem Wk_ptr (j a b i a' b' : Nat) : Wk σ s (.ptr j a b) (.ptr i a' b') = (get σ i = some (some j) ∧ a = a' ∧ b = b') := by simp [Wk]
@[simp] theorem Wk_agg (cs cs' : List AV) : Wk σ s (.agg cs) (.agg cs') = WkL σ s cs cs' := by simp [Wk]
@[simp] theorem Wk_tup (cs cs' : List AV) : Wk σ s (.tup cs) (.tup cs') = WkL σ s cs cs' := by simp [Wk]
@[simp] theorem Wk_fn (f f' : FuncId) (x y x' y' : List AV) : Wk σ s (.fn f x y) (.fn f' x' y') = (f = f' ∧ WkL σ s x x' ∧ WkL σ s y y') := by simp [Wk]
@[simp] theorem WkL_nil : WkL σ s [] [] = True := by simp [WkL]
@[simp] theorem WkL_cons (a a' : AV) (r r' : List AV) : WkL σ s (a :: r) (a' :: r') = (Wk σ s a a' ∧ WkL σ s r r') := by simp [WkL]
end
theorem w64_id {n : Int} (h1 : -9223372036854775808 ≤ n) (h2 : n ≤ 9223372036854775807) : IntKind.i64.wrap n = n := IntWalk.i64_in n ⟨h1, h2⟩
attribute [simp] wkTm wkMem wkArr
@[simp] theorem cells_agg (cs : List AV) : cells (.agg cs) = some cs := rfl
@[simp] theorem cells_sc (v : Value) (h : v.oneCell' = true) : cells (.sc v) = some [.sc v] := by simp only [cells, h, if_true]
@[simp] theorem cells_nil : cells .nil = some [.nil] := rfl
@[simp] theorem cells_sl (n : Nat) (xs : List (List AV)) : cells (.sl n xs) = some [.sl n xs] := rfl
@[simp] theorem cells_own (i j k : Nat) : cells (.own i j k) = some [.own i j k] := rfl
@[simp] theorem cells_ptr (i j k : Nat) : cells (.ptr i j k) = some [.ptr i j k] := rfl
@[simp] theorem cells_ref (cs : List AV) : cells (.ref cs) = some [.ref cs] := rfl
@[simp] theorem cells_fn (f : FuncId) (x y : List AV) : cells (.fn f x y) = some [.fn f x y] := rfl
@[simp] theorem part_true (n : Nat) (cs : List AV) (h : n ≤ cs.length) : part (true, n) cs = some (.agg (cs.take n)) := by simp [part, h]
@[simp] theorem part_false (n : Nat) (c : AV) (r : List AV) : part (false, n) (c :: r) = some c := by simp [part]
@[simp] theorem splice_some (cs : List AV) (j : Nat) (vs : List AV) (h : j + vs.length ≤ cs.length) : splice cs j vs = some (cs.take j ++ vs ++ cs.drop (j + vs.length)) := by simp [splice, h]
end Go.Ab
