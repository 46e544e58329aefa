/- A part of the proof. Conditions: those of each theorem. -/
import Derived.Test.YtjbodjmkfklleaaDoorETy
import Derived.Test.YtjbodjmkfklleaaDoorEX
set_option linter.unusedVariables false
set_option linter.unusedSimpArgs false
set_option linter.unusedSectionVars false

section
namespace Go.Ab
open Go.Proofs
set_option maxRecDepth 1000000
set_option linter.unusedVariables false
attribute [local irreducible] todoQ
-- outline.Check
def outline_Check_S0 (l : List Edge) (end4 : List Spot) (v27 : Int) : AS := ⟨[(0, .sl 2 (l.map cEdge)), (4, .sl 2 (end4.map cSpot)), (25, .sl 2 (l.map cEdge)), (26, int ((l.length : Nat) : Int)), (27, int v27)], [], 0⟩
abbrev outline_Check_V (l : List Edge) (r0 : Int) (I0 : (List Spot) → Int → Prop) (M0 : (List Spot) → Int → Nat) : Prop := ((((l.length : Nat) : Int) > 16 → r0 = 5) ∧ (¬ (((l.length : Nat) : Int) > 16) → ((((l.length : Nat) : Int) < 2 → r0 = 11) ∧ (¬ (((l.length : Nat) : Int) < 2) → (∃ (edges1 : Int), Ret Tryd.prog XS 41 [.sl 2 (l.map cEdge)] (int edges1) ∧ ((edges1 = 0 → (InR (((l.length : Nat) : Int) - 1)) ∧ (Idx (((l.length : Nat) : Int) - 1) l.length) ∧ I0 ((ai l (((l.length : Nat) : Int) - 1)).line) 0) ∧ (¬ (edges1 = 0) → r0 = edges1)))))))
abbrev outline_Check_V0 (l : List Edge) (r0 : Int) (I0 : (List Spot) → Int → Prop) (M0 : (List Spot) → Int → Nat) (end4 : List Spot) (v27 : Int) : Prop := ((v27 < ((l.length : Nat) : Int) → (Idx v27 l.length) ∧ (InR (((end4.length : Nat) : Int) - 1)) ∧ (Idx (((end4.length : Nat) : Int) - 1) end4.length) ∧ (Idx 0 ((ai l v27).line).length) ∧ (((ai end4 (((end4.length : Nat) : Int) - 1)) = (ai ((ai l v27).line) 0) → (InR (v27 + 1)) ∧ I0 ((ai l v27).line) (v27 + 1) ∧ M0 ((ai l v27).line) (v27 + 1) < M0 end4 v27) ∧ (¬ ((ai end4 (((end4.length : Nat) : Int) - 1)) = (ai ((ai l v27).line) 0)) → r0 = 11))) ∧ (¬ (v27 < ((l.length : Nat) : Int)) → (∃ (vertices1 : List Spot), Ret Tryd.prog XS 43 [.sl 2 (l.map cEdge)] (.fr 2 (vertices1.map cSpot)) ∧ (∃ (check2 : Int), Ret Tryd.prog XS 42 [.sl 2 (vertices1.map cSpot)] (int check2) ∧ r0 = check2))))
theorem outline_Check_W0 (l : List Edge) (r0 : Int) (I0 : (List Spot) → Int → Prop) (M0 : (List Spot) → Int → Nat) (h0 : ∀ (end4 : List Spot) (v27 : Int), I0 end4 v27 → outline_Check_V0 l r0 I0 M0 end4 v27) : ∀ (x : (List Spot) × Int), I0 x.1 x.2 → loopQ Tryd.prog XS Tryd.f33 0 (int r0) [] (outline_Check_S0 l x.1 x.2) := by
  intro x0 hx0
  refine loop_rule (fun (x : (List Spot) × Int) => I0 x.1 x.2) (fun (x : (List Spot) × Int) => M0 x.1 x.2) (fun (x : (List Spot) × Int) => outline_Check_S0 l x.1 x.2) x0 hx0 ?_
  rintro ⟨end4, v27⟩ hx
  have h := h0 end4 v27 hx
  clear hx hx0 x0
  by_cases c1 : v27 < ((l.length : Nat) : Int)
  · have h := h.1 c1
    obtain ⟨c2, c3, c4, c5, h⟩ := h
    have g_1 := (abt (dec_t c1))
    have e_2 := fun {o : Orc} {q : List Prop} (r : At o q) => (d11 g_1 (d11 (oidx cEdge c2) (d11 (olen cSpot Tryd.prog 29 2 end4 (by kernel_rfl)) (d11 (osub Tryd.prog 3 (wi64 c3)) (d11 (oidx cSpot c4) (d11 (oidx cSpot c5) r))))))
    by_cases c6 : (ai end4 (((end4.length : Nat) : Int) - 1)) = (ai ((ai l v27).line) 0)
    · have h := h.1 c6
      obtain ⟨c7, h⟩ := h
      exact sb (ts := [0, 4, 25, 26, 27]) (ids := []) (d := 0) (s0 := ⟨[(0, .sl 2 (l.map cEdge)), (4, .sl 2 (((ai l v27).line).map cSpot)), (25, .sl 2 (l.map cEdge)), (26, int ((l.length : Nat) : Int)), (27, int (v27 + 1))], [], 1⟩) (e_2 (d11 (abf (not_f (sSpot_t c6))) (d11 (oadd Tryd.prog 3 (wi64 c7)) az))) (by kernel_rfl) (by kernel_rfl) rfl ((ai l v27).line, (v27 + 1)) h.1 h.2 (Weak.anew [] (by rfl) (wt_cons rfl wk_sl (wt_cons rfl wk_sl (wt_cons rfl wk_sl (wt_cons rfl wk_sc (wt_cons rfl wk_sc wt_nil))))) wm_nil)
    · have h := h.2 c6
      rw [h]
      exact sr (ids := []) (vs := [int 11]) (mem := []) (e_2 (d11 (abt (not_t (sSpot_f c6))) az)) (by kernel_rfl) (by kernel_rfl) (rts_sc rfl)
  · have h := h.2 c1
    obtain ⟨vertices1, c2, check2, c3, h⟩ := h
    have g_3 := (abf (dec_f c1))
    rw [h]
    exact sr (ids := []) (vs := [int check2]) (mem := []) (d11 g_3 (d11 (ocs c2) (d12 (ocl [0] [(0, .row 2 (vertices1.map cSpot))] [.own 0 0 ((vertices1.map cSpot).length)] (as_cons (at_row (List.length_map ..) rfl) as_nil) c3) az))) (by kernel_rfl) (by kernel_rfl) (rts_sc rfl)
theorem outline_Check_W (l : List Edge) (r0 : Int) (I0 : (List Spot) → Int → Prop) (M0 : (List Spot) → Int → Nat) (h : outline_Check_V l r0 I0 M0) (h0 : ∀ (end4 : List Spot) (v27 : Int), I0 end4 v27 → outline_Check_V0 l r0 I0 M0 end4 v27) : Ret Tryd.prog XS 33 [.sl 2 (l.map cEdge)] (int r0) := by
  refine fn_rule Tryd.func33 (by kernel_rfl) (by kernel_rfl) (by kernel_rfl) (by kernel_rfl) ?_
  have g_4 := (olen cEdge Tryd.prog 56 2 l (by kernel_rfl))
  by_cases c1 : ((l.length : Nat) : Int) > 16
  · have h := h.1 c1
    have g_5 := (abt (dec_t c1))
    rw [h]
    exact sr (ids := []) (vs := [int 5]) (mem := []) (d11 g_4 (d11 g_5 az)) (by kernel_rfl) (by kernel_rfl) (rts_sc rfl)
  · have h := h.2 c1
    have g_6 := (abf (dec_f c1))
    have e_7 := fun {o : Orc} {q : List Prop} (r : At o q) => (d11 g_6 (d11 g_4 r))
    by_cases c2 : ((l.length : Nat) : Int) < 2
    · have h := h.1 c2
      rw [h]
      exact sr (ids := []) (vs := [int 11]) (mem := []) (d11 g_4 (e_7 (d11 (abt (dec_t c2)) az))) (by kernel_rfl) (by kernel_rfl) (rts_sc rfl)
    · have h := h.2 c2
      obtain ⟨edges1, c3, h⟩ := h
      have e_8 := fun {o : Orc} {q : List Prop} (r : At o q) => (d11 (abf (dec_f c2)) (d11 (ocs c3) r))
      by_cases c4 : edges1 = 0
      · have h := h.1 c4
        obtain ⟨c5, c6, h⟩ := h
        exact sl (ts := [0, 4, 25, 26, 27]) (ids := []) (d := 0) (s0 := ⟨[(0, .sl 2 (l.map cEdge)), (4, .sl 2 (((ai l (((l.length : Nat) : Int) - 1)).line).map cSpot)), (25, .sl 2 (l.map cEdge)), (26, int ((l.length : Nat) : Int)), (27, int 0)], [], 0⟩) (d11 g_4 (e_7 (e_8 (d11 (abf (bne_f c4)) (d11 g_4 (d11 (osub Tryd.prog 3 (wi64 c5)) (d11 (oidx cEdge c6) (d11 g_4 az)))))))) (by kernel_rfl) (by kernel_rfl) (Weak.anew [] (by rfl) (wt_cons rfl wk_sl (wt_cons rfl wk_sl (wt_cons rfl wk_sl (wt_cons rfl wk_sc (wt_cons rfl wk_sc wt_nil))))) wm_nil) (outline_Check_W0 l r0 I0 M0 h0 ((ai l (((l.length : Nat) : Int) - 1)).line, 0) h)
      · have h := h.2 c4
        rw [h]
        exact sr (ids := []) (vs := [int edges1]) (mem := []) (d11 g_4 (e_7 (e_8 (d11 (abt (bne_t c4)) az)))) (by kernel_rfl) (by kernel_rfl) (rts_sc rfl)

-- outline.edges
def outline_edges_S0 (l : List Edge) (v8 : Int) : AS := ⟨[(0, .sl 2 (l.map cEdge)), (6, .sl 2 (l.map cEdge)), (7, int ((l.length : Nat) : Int)), (8, int v8)], [], 0⟩
abbrev outline_edges_V (l : List Edge) (r0 : Int) (I0 : Int → Prop) (M0 : Int → Nat) : Prop := I0 0
abbrev outline_edges_V0 (l : List Edge) (r0 : Int) (I0 : Int → Prop) (M0 : Int → Nat) (v8 : Int) : Prop := ((v8 < ((l.length : Nat) : Int) → (Idx v8 l.length) ∧ (∃ (named1 : Bool), Ret Tryd.prog XS 48 [str ((ai l v8).name)] (boo named1) ∧ ((named1 = true → (Slc 0 v8 l.length) ∧ (∃ (edge2 : Bool), Ret Tryd.prog XS 49 [.sl 2 ((cut l 0 v8).map cEdge), .fn 50 [] [.ref [str ((ai l v8).name), .sl 2 (((ai l v8).line).map cSpot)]]] (boo edge2) ∧ ((edge2 = true → r0 = 7) ∧ (edge2 = false → (∃ (check3 : Int), Ret Tryd.prog XS 36 [.sl 2 (((ai l v8).line).map cSpot)] (int check3) ∧ ((check3 = 0 → (InR (v8 + 1)) ∧ I0 (v8 + 1) ∧ M0 (v8 + 1) < M0 v8) ∧ (¬ (check3 = 0) → r0 = check3))))))) ∧ (named1 = false → r0 = 1)))) ∧ (¬ (v8 < ((l.length : Nat) : Int)) → r0 = 0))
theorem outline_edges_W0 (l : List Edge) (r0 : Int) (I0 : Int → Prop) (M0 : Int → Nat) (h0 : ∀ (v8 : Int), I0 v8 → outline_edges_V0 l r0 I0 M0 v8) : ∀ (x : Int), I0 x → loopQ Tryd.prog XS Tryd.f41 0 (int r0) [] (outline_edges_S0 l x) := by
  intro x0 hx0
  refine loop_rule (fun (x : Int) => I0 x) (fun (x : Int) => M0 x) (fun (x : Int) => outline_edges_S0 l x) x0 hx0 ?_
  intro v8 hx
  have h := h0 v8 hx
  clear hx hx0 x0
  by_cases c1 : v8 < ((l.length : Nat) : Int)
  · have h := h.1 c1
    obtain ⟨c2, named1, c3, h⟩ := h
    have e_1 := fun {o : Orc} {q : List Prop} (r : At o q) => (d11 (abt (dec_t c1)) (d11 (oidx cEdge c2) (d11 (ocs c3) r)))
    rcases Bool.eq_false_or_eq_true named1 with c4 | c4
    · have h := h.1 c4
      obtain ⟨c5, edge2, c6, h⟩ := h
      have e_2 := fun {o : Orc} {q : List Prop} (r : At o q) => (d11 (abf (not_f c4)) (d11 (ocut0 cEdge 2 c5) (d12 (ocl [0] [(0, .box [str ((ai l v8).name), .sl 2 (((ai l v8).line).map cSpot)])] [.sl 2 ((cut l 0 v8).map cEdge), .fn 50 [] [.ptr 0 0 0]] (as_cons (ArgTo.same rfl) (as_cons (at_fn as_nil (as_cons (at_ptr rfl (as_cons (ArgTo.same rfl) (as_cons (ArgTo.same rfl) as_nil))) as_nil)) as_nil)) c6) r)))
      rcases Bool.eq_false_or_eq_true edge2 with c7 | c7
      · have h := h.1 c7
        rw [h]
        exact sr (ids := []) (vs := [int 7]) (mem := []) (e_1 (e_2 (d11 (abt c7) az))) (by kernel_rfl) (by kernel_rfl) (rts_sc rfl)
      · have h := h.2 c7
        obtain ⟨check3, c8, h⟩ := h
        have e_3 := fun {o : Orc} {q : List Prop} (r : At o q) => (d11 (abf c7) (d11 (ocs c8) r))
        by_cases c9 : check3 = 0
        · have h := h.1 c9
          obtain ⟨c10, h⟩ := h
          exact sb (ts := [0, 6, 7, 8]) (ids := []) (d := 0) (s0 := ⟨[(0, .sl 2 (l.map cEdge)), (6, .sl 2 (l.map cEdge)), (7, int ((l.length : Nat) : Int)), (8, int (v8 + 1))], [], 1⟩) (e_1 (e_2 (e_3 (d11 (abf (bne_f c9)) (d11 (oadd Tryd.prog 3 (wi64 c10)) az))))) (by kernel_rfl) (by kernel_rfl) rfl (v8 + 1) h.1 h.2 (Weak.anew [] (by rfl) (wt_cons rfl wk_sl (wt_cons rfl wk_sl (wt_cons rfl wk_sc (wt_cons rfl wk_sc wt_nil)))) wm_nil)
        · have h := h.2 c9
          rw [h]
          exact sr (ids := []) (vs := [int check3]) (mem := []) (e_1 (e_2 (e_3 (d11 (abt (bne_t c9)) az)))) (by kernel_rfl) (by kernel_rfl) (rts_sc rfl)
    · have h := h.2 c4
      rw [h]
      exact sr (ids := []) (vs := [int 1]) (mem := []) (e_1 (d11 (abt (not_t c4)) az)) (by kernel_rfl) (by kernel_rfl) (rts_sc rfl)
  · have h := h.2 c1
    rw [h]
    exact sr (ids := []) (vs := [int 0]) (mem := []) (d11 (abf (dec_f c1)) az) (by kernel_rfl) (by kernel_rfl) (rts_sc rfl)
theorem outline_edges_W (l : List Edge) (r0 : Int) (I0 : Int → Prop) (M0 : Int → Nat) (h : outline_edges_V l r0 I0 M0) (h0 : ∀ (v8 : Int), I0 v8 → outline_edges_V0 l r0 I0 M0 v8) : Ret Tryd.prog XS 41 [.sl 2 (l.map cEdge)] (int r0) := by
  refine fn_rule Tryd.func41 (by kernel_rfl) (by kernel_rfl) (by kernel_rfl) (by kernel_rfl) ?_
  exact sl (ts := [0, 6, 7, 8]) (ids := []) (d := 0) (s0 := ⟨[(0, .sl 2 (l.map cEdge)), (6, .sl 2 (l.map cEdge)), (7, int ((l.length : Nat) : Int)), (8, int 0)], [], 0⟩) (d11 (olen cEdge Tryd.prog 56 2 l (by kernel_rfl)) az) (by kernel_rfl) (by kernel_rfl) (Weak.anew [] (by rfl) (wt_cons rfl wk_sl (wt_cons rfl wk_sl (wt_cons rfl wk_sc (wt_cons rfl wk_sc wt_nil)))) wm_nil) (outline_edges_W0 l r0 I0 M0 h0 0 h)

-- outline.named
abbrev outline_named_V (s0 : ByteArray) (r0 : Bool) : Prop := (∃ (check1 : Int), Ret Tryd.prog XS 54 [.agg [int 2, boo false, .sl 1 (([] : List Int).map cU32), .sl 1 (([] : List Int).map cU32), str s0, .nil]] (int check1) ∧ r0 = (check1 == 0))
theorem outline_named_W (s0 : ByteArray) (r0 : Bool) (h : outline_named_V s0 r0) : Ret Tryd.prog XS 48 [str s0] (boo r0) := by
  refine fn_rule Tryd.func48 (by kernel_rfl) (by kernel_rfl) (by kernel_rfl) (by kernel_rfl) ?_
  obtain ⟨check1, c1, h⟩ := h
  rw [h]
  exact sr (ids := []) (vs := [boo (check1 == 0)]) (mem := []) (d12 (ocl [] [] [.agg [int 2, boo false, .nil, .nil, str s0, .nil]] (as_cons (at_agg (as_cons (ArgTo.same rfl) (as_cons (ArgTo.same rfl) (as_cons (ArgTo.nil _) (as_cons (ArgTo.nil _) (as_cons (ArgTo.same rfl) (as_cons (ArgTo.same rfl) as_nil))))))) as_nil) c1) az) (by kernel_rfl) (by kernel_rfl) (rts_sc rfl)

-- formula.Check
abbrev formula_Check_V (s : ByteArray) (r0 : Int) : Prop := (∃ (check1 : Int), Ret Tryd.prog XS 60 [.agg [int 2, boo false, .sl 1 (([] : List Int).map cU32), .sl 1 (([] : List Int).map cU32), str s, .nil], int 1] (int check1) ∧ r0 = check1)
theorem formula_Check_W (s : ByteArray) (r0 : Int) (h : formula_Check_V s r0) : Ret Tryd.prog XS 54 [.agg [int 2, boo false, .sl 1 (([] : List Int).map cU32), .sl 1 (([] : List Int).map cU32), str s, .nil]] (int r0) := by
  refine fn_rule Tryd.func54 (by kernel_rfl) (by kernel_rfl) (by kernel_rfl) (by kernel_rfl) ?_
  obtain ⟨check1, c1, h⟩ := h
  rw [h]
  exact sr (ids := []) (vs := [int check1]) (mem := []) (d11 (ocs c1) az) (by kernel_rfl) (by kernel_rfl) (rts_sc rfl)

-- formula.check
def formula_check_S0 (s : ByteArray) (v16 : Int) : AS := ⟨[(1, int 1), (14, .nil), (15, int 0), (16, int v16)], [], 0⟩
abbrev formula_check_V (s : ByteArray) (r0 : Int) (I0 : Int → Prop) (M0 : Int → Nat) : Prop := (∃ (right1 : Bool), Ret Tryd.prog XS 64 [.agg [int 2, boo false, .sl 1 (([] : List Int).map cU32), .sl 1 (([] : List Int).map cU32), str s, .nil]] (boo right1) ∧ ((right1 = true → I0 0) ∧ (right1 = false → r0 = 1)))
abbrev formula_check_V0 (s : ByteArray) (r0 : Int) (I0 : Int → Prop) (M0 : Int → Nat) (v16 : Int) : Prop := ((v16 < 0 → False) ∧ (¬ (v16 < 0) → r0 = 0))
theorem formula_check_W0 (s : ByteArray) (r0 : Int) (I0 : Int → Prop) (M0 : Int → Nat) (h0 : ∀ (v16 : Int), I0 v16 → formula_check_V0 s r0 I0 M0 v16) : ∀ (x : Int), I0 x → loopQ Tryd.prog XS Tryd.f60 0 (int r0) [] (formula_check_S0 s x) := by
  intro x0 hx0
  refine loop_rule (fun (x : Int) => I0 x) (fun (x : Int) => M0 x) (fun (x : Int) => formula_check_S0 s x) x0 hx0 ?_
  intro v16 hx
  have h := h0 v16 hx
  clear hx hx0 x0
  by_cases c1 : v16 < 0
  · have h := h.1 c1
    exact h.elim
  · have h := h.2 c1
    rw [h]
    exact sr (ids := []) (vs := [int 0]) (mem := []) (d11 (abf (dec_f c1)) az) (by kernel_rfl) (by kernel_rfl) (rts_sc rfl)
theorem formula_check_W (s : ByteArray) (r0 : Int) (I0 : Int → Prop) (M0 : Int → Nat) (h : formula_check_V s r0 I0 M0) (h0 : ∀ (v16 : Int), I0 v16 → formula_check_V0 s r0 I0 M0 v16) : Ret Tryd.prog XS 60 [.agg [int 2, boo false, .sl 1 (([] : List Int).map cU32), .sl 1 (([] : List Int).map cU32), str s, .nil], int 1] (int r0) := by
  refine fn_rule Tryd.func60 (by kernel_rfl) (by kernel_rfl) (by kernel_rfl) (by kernel_rfl) ?_
  obtain ⟨right1, c1, h⟩ := h
  have e_1 := fun {o : Orc} {q : List Prop} (r : At o q) => (d11 abff (d11 (ocs c1) r))
  rcases Bool.eq_false_or_eq_true right1 with c2 | c2
  · have h := h.1 c2
    exact sl (ts := [1, 14, 15, 16]) (ids := []) (d := 0) (s0 := ⟨[(1, int 1), (14, .nil), (15, int 0), (16, int 0)], [], 1⟩) (e_1 (d11 (abf (not_f c2)) az)) (by kernel_rfl) (by kernel_rfl) (Weak.anew [] (by rfl) (wt_cons rfl wk_sc (wt_cons rfl wk_nil (wt_cons rfl wk_sc (wt_cons rfl wk_sc wt_nil)))) wm_nil) (formula_check_W0 s r0 I0 M0 h0 0 h)
  · have h := h.2 c2
    rw [h]
    exact sr (ids := []) (vs := [int 1]) (mem := []) (e_1 (d11 (abt (not_t c2)) az)) (by kernel_rfl) (by kernel_rfl) (rts_sc rfl)

-- formula.right
abbrev formula_right_V (s : ByteArray) (r0 : Bool) : Prop := (Ret Tryd.prog XS 65 [.agg [boo false, .sl 1 (([] : List Int).map cU32), .sl 1 (([] : List Int).map cU32)]] (boo true) ∧ (∃ (name1 : Bool), Ret Tryd.prog XS 66 [str s] (boo name1) ∧ ((name1 = true → r0 = true) ∧ (name1 = false → r0 = false))))
theorem formula_right_W (s : ByteArray) (r0 : Bool) (h : formula_right_V s r0) : Ret Tryd.prog XS 64 [.agg [int 2, boo false, .sl 1 (([] : List Int).map cU32), .sl 1 (([] : List Int).map cU32), str s, .nil]] (boo r0) := by
  refine fn_rule Tryd.func64 (by kernel_rfl) (by kernel_rfl) (by kernel_rfl) (by kernel_rfl) ?_
  obtain ⟨c1, name1, c2, h⟩ := h
  have e_1 := fun {o : Orc} {q : List Prop} (r : At o q) => (d11 abff (d11 abtt (d11 abff (d11 abff (d11 abff (d11 abff (d11 abff (d11 abff (d11 abff (d11 (ocs c1) (d11 abtt (d11 (ocs c2) (d11 abff r)))))))))))))
  rcases Bool.eq_false_or_eq_true name1 with c3 | c3
  · have h := h.1 c3
    rw [h]
    exact sr (ids := []) (vs := [boo true]) (mem := []) (e_1 (d11 (abt c3) (d11 (abt c3) az))) (by kernel_rfl) (by kernel_rfl) (rts_sc rfl)
  · have h := h.2 c3
    rw [h]
    exact sr (ids := []) (vs := [boo false]) (mem := []) (e_1 (d11 (abf c3) (d11 (abf c3) az))) (by kernel_rfl) (by kernel_rfl) (rts_sc rfl)

-- formula.name
abbrev formula_name_V (s0 : ByteArray) (r0 : Bool) : Prop := ((s0 = ({ data := #[] } : ByteArray) → r0 = false) ∧ (¬ (s0 = ({ data := #[] } : ByteArray)) → ((((s0.size : Nat) : Int) > 24 → r0 = false) ∧ (¬ (((s0.size : Nat) : Int) > 24) → ((s0 = ({ data := #[109, 105, 110] } : ByteArray) → r0 = false) ∧ (¬ (s0 = ({ data := #[109, 105, 110] } : ByteArray)) → ((s0 = ({ data := #[109, 97, 120] } : ByteArray) → r0 = false) ∧ (¬ (s0 = ({ data := #[109, 97, 120] } : ByteArray)) → (Idx 0 s0.size) ∧ (((bt s0 0) < 97 → r0 = false) ∧ (¬ ((bt s0 0) < 97) → (((bt s0 0) > 122 → r0 = false) ∧ (¬ ((bt s0 0) > 122) → (∃ (trim1 : ByteArray), Ret Tryd.prog XS 69 [str s0, str ({ data := #[97, 98, 99, 100, 101, 102, 103, 104, 105, 106, 107, 108, 109, 110, 111, 112, 113, 114, 115, 116, 117, 118, 119, 120, 121, 122, 48, 49, 50, 51, 52, 53, 54, 55, 56, 57, 95] } : ByteArray)] (str trim1) ∧ r0 = (trim1.toList == ({ data := #[] } : ByteArray).toList))))))))))))))
theorem formula_name_W (s0 : ByteArray) (r0 : Bool) (h : formula_name_V s0 r0) : Ret Tryd.prog XS 66 [str s0] (boo r0) := by
  refine fn_rule Tryd.func66 (by kernel_rfl) (by kernel_rfl) (by kernel_rfl) (by kernel_rfl) ?_
  by_cases c1 : s0 = ({ data := #[] } : ByteArray)
  · have h := h.1 c1
    have g_1 := (abt (streq_t c1))
    rw [h]
    exact sr (ids := []) (vs := [boo false]) (mem := []) (d11 g_1 (d11 g_1 (d11 g_1 (d11 g_1 (d11 abtt (d11 abtt (d11 abtt (d11 abtt (d11 abtt (d11 abtt (d11 abtt (d11 abtt (d11 abtt (d11 abtt (d11 abtt (d11 abtt (d11 abtt (d11 abtt (d11 abtt az))))))))))))))))))) (by kernel_rfl) (by kernel_rfl) (rts_sc rfl)
  · have h := h.2 c1
    have g_2 := (abf (streq_f c1))
    have e_3 := fun {o : Orc} {q : List Prop} (r : At o q) => (d11 g_2 (d11 g_2 (d11 (olens Tryd.prog 9 s0 (by kernel_rfl)) (d11 g_2 (d11 g_2 r)))))
    by_cases c2 : ((s0.size : Nat) : Int) > 24
    · have h := h.1 c2
      have g_4 := (abt (dec_t c2))
      rw [h]
      exact sr (ids := []) (vs := [boo false]) (mem := []) (e_3 (d11 g_4 (d11 g_4 (d11 g_4 (d11 abtt (d11 abtt (d11 abtt (d11 abtt (d11 abtt (d11 abtt (d11 abtt (d11 abtt (d11 abtt (d11 abtt (d11 abtt (d11 abtt az)))))))))))))))) (by kernel_rfl) (by kernel_rfl) (rts_sc rfl)
    · have h := h.2 c2
      have g_5 := (abf (dec_f c2))
      have e_6 := fun {o : Orc} {q : List Prop} (r : At o q) => (d11 g_5 (d11 g_5 (d11 g_5 r)))
      by_cases c3 : s0 = ({ data := #[109, 105, 110] } : ByteArray)
      · have h := h.1 c3
        have g_7 := (abt (streq_t c3))
        rw [h]
        exact sr (ids := []) (vs := [boo false]) (mem := []) (e_3 (e_6 (d11 g_7 (d11 g_7 (d11 g_7 (d11 abtt (d11 abtt (d11 abtt (d11 abtt (d11 abtt (d11 abtt (d11 abtt (d11 abtt (d11 abtt az)))))))))))))) (by kernel_rfl) (by kernel_rfl) (rts_sc rfl)
      · have h := h.2 c3
        have g_8 := (abf (streq_f c3))
        have e_9 := fun {o : Orc} {q : List Prop} (r : At o q) => (d11 g_8 (d11 g_8 (d11 g_8 r)))
        by_cases c4 : s0 = ({ data := #[109, 97, 120] } : ByteArray)
        · have h := h.1 c4
          have g_10 := (abt (streq_t c4))
          rw [h]
          exact sr (ids := []) (vs := [boo false]) (mem := []) (e_3 (e_6 (e_9 (d11 g_10 (d11 g_10 (d11 g_10 (d11 g_10 (d11 abtt (d11 abtt (d11 abtt (d11 abtt (d11 abtt az)))))))))))) (by kernel_rfl) (by kernel_rfl) (rts_sc rfl)
        · have h := h.2 c4
          obtain ⟨c5, h⟩ := h
          have g_11 := (abf (streq_f c4))
          have e_12 := fun {o : Orc} {q : List Prop} (r : At o q) => (d11 g_11 (d11 g_11 (d11 (obtt c5) (d11 g_11 (d11 g_11 r)))))
          by_cases c6 : (bt s0 0) < 97
          · have h := h.1 c6
            have g_13 := (abt (dec_t c6))
            rw [h]
            exact sr (ids := []) (vs := [boo false]) (mem := []) (e_3 (e_6 (e_9 (e_12 (d11 g_13 (d11 g_13 (d11 g_13 (d11 g_13 (d11 abtt az))))))))) (by kernel_rfl) (by kernel_rfl) (rts_sc rfl)
          · have h := h.2 c6
            have g_14 := (abf (dec_f c6))
            have e_15 := fun {o : Orc} {q : List Prop} (r : At o q) => (d11 g_14 (d11 g_14 (d11 (obtt c5) (d11 g_14 (d11 g_14 r)))))
            by_cases c7 : (bt s0 0) > 122
            · have h := h.1 c7
              rw [h]
              exact sr (ids := []) (vs := [boo false]) (mem := []) (e_3 (e_6 (e_9 (e_12 (e_15 (d11 (abt (dec_t c7)) az)))))) (by kernel_rfl) (by kernel_rfl) (rts_sc rfl)
            · have h := h.2 c7
              obtain ⟨trim1, c8, h⟩ := h
              rw [h]
              exact sr (ids := []) (vs := [boo (trim1.toList == ({ data := #[] } : ByteArray).toList)]) (mem := []) (e_3 (e_6 (e_9 (e_12 (e_15 (d11 (abf (dec_f c7)) (d11 (ocs c8) az))))))) (by kernel_rfl) (by kernel_rfl) (rts_sc rfl)

-- strings.Trim
abbrev strings_Trim_V (s0 : ByteArray) (r0 : ByteArray) : Prop := ((s0 = ({ data := #[] } : ByteArray) → r0 = s0) ∧ (¬ (s0 = ({ data := #[] } : ByteArray)) → ((({ data := #[97, 98, 99, 100, 101, 102, 103, 104, 105, 106, 107, 108, 109, 110, 111, 112, 113, 114, 115, 116, 117, 118, 119, 120, 121, 122, 48, 49, 50, 51, 52, 53, 54, 55, 56, 57, 95] } : ByteArray) = ({ data := #[] } : ByteArray) → r0 = s0) ∧ (¬ (({ data := #[97, 98, 99, 100, 101, 102, 103, 104, 105, 106, 107, 108, 109, 110, 111, 112, 113, 114, 115, 116, 117, 118, 119, 120, 121, 122, 48, 49, 50, 51, 52, 53, 54, 55, 56, 57, 95] } : ByteArray) = ({ data := #[] } : ByteArray)) → ((((({ data := #[97, 98, 99, 100, 101, 102, 103, 104, 105, 106, 107, 108, 109, 110, 111, 112, 113, 114, 115, 116, 117, 118, 119, 120, 121, 122, 48, 49, 50, 51, 52, 53, 54, 55, 56, 57, 95] } : ByteArray).size : Nat) : Int) = 1 → (Idx 0 ({ data := #[97, 98, 99, 100, 101, 102, 103, 104, 105, 106, 107, 108, 109, 110, 111, 112, 113, 114, 115, 116, 117, 118, 119, 120, 121, 122, 48, 49, 50, 51, 52, 53, 54, 55, 56, 57, 95] } : ByteArray).size) ∧ (((bt ({ data := #[97, 98, 99, 100, 101, 102, 103, 104, 105, 106, 107, 108, 109, 110, 111, 112, 113, 114, 115, 116, 117, 118, 119, 120, 121, 122, 48, 49, 50, 51, 52, 53, 54, 55, 56, 57, 95] } : ByteArray) 0) < 128 → (∃ (trimRightByte1 : ByteArray), Ret Tryd.prog XS 77 [str s0, .sc (.int .u8 (bt ({ data := #[97, 98, 99, 100, 101, 102, 103, 104, 105, 106, 107, 108, 109, 110, 111, 112, 113, 114, 115, 116, 117, 118, 119, 120, 121, 122, 48, 49, 50, 51, 52, 53, 54, 55, 56, 57, 95] } : ByteArray) 0))] (str trimRightByte1) ∧ (∃ (trimLeftByte2 : ByteArray), Ret Tryd.prog XS 76 [str trimRightByte1, .sc (.int .u8 (bt ({ data := #[97, 98, 99, 100, 101, 102, 103, 104, 105, 106, 107, 108, 109, 110, 111, 112, 113, 114, 115, 116, 117, 118, 119, 120, 121, 122, 48, 49, 50, 51, 52, 53, 54, 55, 56, 57, 95] } : ByteArray) 0))] (str trimLeftByte2) ∧ r0 = trimLeftByte2))) ∧ (¬ ((bt ({ data := #[97, 98, 99, 100, 101, 102, 103, 104, 105, 106, 107, 108, 109, 110, 111, 112, 113, 114, 115, 116, 117, 118, 119, 120, 121, 122, 48, 49, 50, 51, 52, 53, 54, 55, 56, 57, 95] } : ByteArray) 0) < 128) → (Ret Tryd.prog XS 78 [str ({ data := #[97, 98, 99, 100, 101, 102, 103, 104, 105, 106, 107, 108, 109, 110, 111, 112, 113, 114, 115, 116, 117, 118, 119, 120, 121, 122, 48, 49, 50, 51, 52, 53, 54, 55, 56, 57, 95] } : ByteArray)] (.tup [.agg setT, boo true]) ∧ (∃ (trimRightASCII1 : ByteArray), Ret Tryd.prog XS 80 [str s0, .ref setT] (str trimRightASCII1) ∧ (∃ (trimLeftASCII2 : ByteArray), Ret Tryd.prog XS 79 [str trimRightASCII1, .ref setT] (str trimLeftASCII2) ∧ r0 = trimLeftASCII2)))))) ∧ (¬ (((({ data := #[97, 98, 99, 100, 101, 102, 103, 104, 105, 106, 107, 108, 109, 110, 111, 112, 113, 114, 115, 116, 117, 118, 119, 120, 121, 122, 48, 49, 50, 51, 52, 53, 54, 55, 56, 57, 95] } : ByteArray).size : Nat) : Int) = 1) → (Ret Tryd.prog XS 78 [str ({ data := #[97, 98, 99, 100, 101, 102, 103, 104, 105, 106, 107, 108, 109, 110, 111, 112, 113, 114, 115, 116, 117, 118, 119, 120, 121, 122, 48, 49, 50, 51, 52, 53, 54, 55, 56, 57, 95] } : ByteArray)] (.tup [.agg setT, boo true]) ∧ (∃ (trimRightASCII1 : ByteArray), Ret Tryd.prog XS 80 [str s0, .ref setT] (str trimRightASCII1) ∧ (∃ (trimLeftASCII2 : ByteArray), Ret Tryd.prog XS 79 [str trimRightASCII1, .ref setT] (str trimLeftASCII2) ∧ r0 = trimLeftASCII2)))))))))
theorem strings_Trim_W (s0 : ByteArray) (r0 : ByteArray) (h : strings_Trim_V s0 r0) : Ret Tryd.prog XS 69 [str s0, str ({ data := #[97, 98, 99, 100, 101, 102, 103, 104, 105, 106, 107, 108, 109, 110, 111, 112, 113, 114, 115, 116, 117, 118, 119, 120, 121, 122, 48, 49, 50, 51, 52, 53, 54, 55, 56, 57, 95] } : ByteArray)] (str r0) := by
  refine fn_rule Tryd.func69 (by kernel_rfl) (by kernel_rfl) (by kernel_rfl) (by kernel_rfl) ?_
  by_cases c1 : s0 = ({ data := #[] } : ByteArray)
  · have h := h.1 c1
    have g_1 := (abt (streq_t c1))
    rw [h]
    exact sr (ids := []) (vs := [str s0]) (mem := []) (d11 g_1 (d11 g_1 (d11 g_1 (d11 abtt az)))) (by kernel_rfl) (by kernel_rfl) (rts_sc rfl)
  · have h := h.2 c1
    have g_2 := (abf (streq_f c1))
    have e_3 := fun {o : Orc} {q : List Prop} (r : At o q) => (d11 g_2 (d11 g_2 (d11 g_2 r)))
    by_cases c2 : ({ data := #[97, 98, 99, 100, 101, 102, 103, 104, 105, 106, 107, 108, 109, 110, 111, 112, 113, 114, 115, 116, 117, 118, 119, 120, 121, 122, 48, 49, 50, 51, 52, 53, 54, 55, 56, 57, 95] } : ByteArray) = ({ data := #[] } : ByteArray)
    · have h := h.1 c2
      rw [h]
      exact sr (ids := []) (vs := [str s0]) (mem := []) (e_3 (d11 (abt (streq_t c2)) az)) (by kernel_rfl) (by kernel_rfl) (rts_sc rfl)
    · have h := h.2 c2
      have e_4 := fun {o : Orc} {q : List Prop} (r : At o q) => (d11 (abf (streq_f c2)) (d11 (olens Tryd.prog 9 ({ data := #[97, 98, 99, 100, 101, 102, 103, 104, 105, 106, 107, 108, 109, 110, 111, 112, 113, 114, 115, 116, 117, 118, 119, 120, 121, 122, 48, 49, 50, 51, 52, 53, 54, 55, 56, 57, 95] } : ByteArray) (by kernel_rfl)) r))
      by_cases c3 : ((({ data := #[97, 98, 99, 100, 101, 102, 103, 104, 105, 106, 107, 108, 109, 110, 111, 112, 113, 114, 115, 116, 117, 118, 119, 120, 121, 122, 48, 49, 50, 51, 52, 53, 54, 55, 56, 57, 95] } : ByteArray).size : Nat) : Int) = 1
      · have h := h.1 c3
        obtain ⟨c4, h⟩ := h
        have g_5 := (abt (beq_t c3))
        have e_6 := fun {o : Orc} {q : List Prop} (r : At o q) => (d11 g_5 (d11 g_5 (d11 (obtt c4) (d11 g_5 (d11 g_5 r)))))
        by_cases c5 : (bt ({ data := #[97, 98, 99, 100, 101, 102, 103, 104, 105, 106, 107, 108, 109, 110, 111, 112, 113, 114, 115, 116, 117, 118, 119, 120, 121, 122, 48, 49, 50, 51, 52, 53, 54, 55, 56, 57, 95] } : ByteArray) 0) < 128
        · have h := h.1 c5
          obtain ⟨trimRightByte1, c6, trimLeftByte2, c7, h⟩ := h
          rw [h]
          exact sr (ids := []) (vs := [str trimLeftByte2]) (mem := []) (e_3 (e_4 (e_6 (d11 (abt (dec_t c5)) (d11 (obtt c4) (d11 (ocs c6) (d11 (obtt c4) (d11 (ocs c7) az)))))))) (by kernel_rfl) (by kernel_rfl) (rts_sc rfl)
        · have h := h.2 c5
          obtain ⟨c6, trimRightASCII1, c7, trimLeftASCII2, c8, h⟩ := h
          rw [h]
          exact sr (ids := []) (vs := [str trimLeftASCII2]) (mem := []) (e_3 (e_4 (e_6 (d11 (abf (dec_f c5)) (d11 (ocs c6) (d11 abtt (d12 (ocl [0] [(0, .box setT)] [str s0, .ptr 0 0 0] (as_cons (ArgTo.same rfl) (as_cons (at_ptr rfl (sames_to (by kernel_rfl))) as_nil)) c7) (d12 (ocl [0] [(0, .box setT)] [str trimRightASCII1, .ptr 0 0 0] (as_cons (ArgTo.same rfl) (as_cons (at_ptr rfl (sames_to (by kernel_rfl))) as_nil)) c8) az)))))))) (by kernel_rfl) (by kernel_rfl) (rts_sc rfl)
      · have h := h.2 c3
        obtain ⟨c4, trimRightASCII1, c5, trimLeftASCII2, c6, h⟩ := h
        have g_7 := (abf (beq_f c3))
        rw [h]
        exact sr (ids := []) (vs := [str trimLeftASCII2]) (mem := []) (e_3 (e_4 (d11 g_7 (d11 g_7 (d11 g_7 (d11 g_7 (d11 abff (d11 (ocs c4) (d11 abtt (d12 (ocl [0] [(0, .box setT)] [str s0, .ptr 0 0 0] (as_cons (ArgTo.same rfl) (as_cons (at_ptr rfl (sames_to (by kernel_rfl))) as_nil)) c5) (d12 (ocl [0] [(0, .box setT)] [str trimRightASCII1, .ptr 0 0 0] (as_cons (ArgTo.same rfl) (as_cons (at_ptr rfl (sames_to (by kernel_rfl))) as_nil)) c6) az))))))))))) (by kernel_rfl) (by kernel_rfl) (rts_sc rfl)

end Go.Ab
end

section
namespace Go.Ab
open Go.Proofs
set_option maxRecDepth 1000000
set_option linter.unusedVariables false
attribute [local irreducible] todoQ
-- strings.trimRightASCII
def strings_trimRightASCII_S0 (s0 : ByteArray) (s0' : ByteArray) : AS := ⟨[(0, str s0'), (1, .ref setT)], [], 0⟩
abbrev strings_trimRightASCII_V (s0 : ByteArray) (r0 : ByteArray) (I0 : ByteArray → Prop) (M0 : ByteArray → Nat) : Prop := I0 s0
abbrev strings_trimRightASCII_V0 (s0 : ByteArray) (r0 : ByteArray) (I0 : ByteArray → Prop) (M0 : ByteArray → Nat) (s0' : ByteArray) : Prop := ((((s0'.size : Nat) : Int) > 0 → (InR (((s0'.size : Nat) : Int) - 1)) ∧ (Idx (((s0'.size : Nat) : Int) - 1) s0'.size) ∧ (∃ (contains1 : Bool), Ret Tryd.prog XS 92 [.ref setT, .sc (.int .u8 (bt s0' (((s0'.size : Nat) : Int) - 1)))] (boo contains1) ∧ ((contains1 = true → (Slc 0 (((s0'.size : Nat) : Int) - 1) s0'.size) ∧ I0 (s0'.extract (((0 : Nat) : Int) : Int).toNat ((((s0'.size : Nat) : Int) - 1) : Int).toNat) ∧ M0 (s0'.extract (((0 : Nat) : Int) : Int).toNat ((((s0'.size : Nat) : Int) - 1) : Int).toNat) < M0 s0') ∧ (contains1 = false → r0 = s0')))) ∧ (¬ (((s0'.size : Nat) : Int) > 0) → r0 = s0'))
theorem strings_trimRightASCII_W0 (s0 : ByteArray) (r0 : ByteArray) (I0 : ByteArray → Prop) (M0 : ByteArray → Nat) (h0 : ∀ (s0' : ByteArray), I0 s0' → strings_trimRightASCII_V0 s0 r0 I0 M0 s0') : ∀ (x : ByteArray), I0 x → loopQ Tryd.prog XS Tryd.f80 0 (str r0) [] (strings_trimRightASCII_S0 s0 x) := by
  intro x0 hx0
  refine loop_rule (fun (x : ByteArray) => I0 x) (fun (x : ByteArray) => M0 x) (fun (x : ByteArray) => strings_trimRightASCII_S0 s0 x) x0 hx0 ?_
  intro s0' hx
  have h := h0 s0' hx
  clear hx hx0 x0
  have g_1 := (olens Tryd.prog 9 s0' (by kernel_rfl))
  by_cases c1 : ((s0'.size : Nat) : Int) > 0
  · have h := h.1 c1
    obtain ⟨c2, c3, contains1, c4, h⟩ := h
    have g_2 := (osub Tryd.prog 3 (wi64 c2))
    have e_3 := fun {o : Orc} {q : List Prop} (r : At o q) => (d11 (abt (dec_t c1)) (d11 g_1 (d11 g_2 (d11 (obtt c3) (d11 (ocs c4) r)))))
    rcases Bool.eq_false_or_eq_true contains1 with c5 | c5
    · have h := h.1 c5
      obtain ⟨c6, h⟩ := h
      exact sb (ts := [0, 1]) (ids := []) (d := 0) (s0 := ⟨[(0, str (s0'.extract (((0 : Nat) : Int) : Int).toNat ((((s0'.size : Nat) : Int) - 1) : Int).toNat)), (1, .ref setT)], [], 0⟩) (d11 g_1 (e_3 (d11 (abf (not_f c5)) (d11 g_1 (d11 g_2 (d11 (At.mk (allc (ob_scut c6) alln) : At [.val (str (s0'.extract (((0 : Nat) : Int) : Int).toNat ((((s0'.size : Nat) : Int) - 1) : Int).toNat))] [(0 : Int) ≤ ((0 : Nat) : Int) ∧ ((0 : Nat) : Int) ≤ (((s0'.size : Nat) : Int) - 1) ∧ (((s0'.size : Nat) : Int) - 1) ≤ ((s0'.size : Nat) : Int) ∧ (s0'.extract (((0 : Nat) : Int) : Int).toNat ((((s0'.size : Nat) : Int) - 1) : Int).toNat) = (s0'.extract (((0 : Nat) : Int) : Int).toNat ((((s0'.size : Nat) : Int) - 1) : Int).toNat)]) az)))))) (by kernel_rfl) (by kernel_rfl) rfl (s0'.extract (((0 : Nat) : Int) : Int).toNat ((((s0'.size : Nat) : Int) - 1) : Int).toNat) h.1 h.2 (Weak.anew [] (by rfl) (wt_cons rfl wk_sc (wt_cons rfl wk_ref wt_nil)) wm_nil)
    · have h := h.2 c5
      rw [h]
      exact sr (ids := []) (vs := [str s0']) (mem := []) (d11 g_1 (e_3 (d11 (abt (not_t c5)) az))) (by kernel_rfl) (by kernel_rfl) (rts_sc rfl)
  · have h := h.2 c1
    rw [h]
    exact sr (ids := []) (vs := [str s0']) (mem := []) (d11 g_1 (d11 (abf (dec_f c1)) az)) (by kernel_rfl) (by kernel_rfl) (rts_sc rfl)
theorem strings_trimRightASCII_W (s0 : ByteArray) (r0 : ByteArray) (I0 : ByteArray → Prop) (M0 : ByteArray → Nat) (h : strings_trimRightASCII_V s0 r0 I0 M0) (h0 : ∀ (s0' : ByteArray), I0 s0' → strings_trimRightASCII_V0 s0 r0 I0 M0 s0') : Ret Tryd.prog XS 80 [str s0, .ref setT] (str r0) := by
  refine fn_rule Tryd.func80 (by kernel_rfl) (by kernel_rfl) (by kernel_rfl) (by kernel_rfl) ?_
  exact sl (ts := [0, 1]) (ids := []) (d := 0) (s0 := ⟨[(0, str s0), (1, .ref setT)], [], 0⟩) az (by kernel_rfl) (by kernel_rfl) (Weak.anew [] (by rfl) (wt_cons rfl wk_sc (wt_cons rfl wk_ref wt_nil)) wm_nil) (strings_trimRightASCII_W0 s0 r0 I0 M0 h0 s0 h)

-- strings.trimLeftASCII
def strings_trimLeftASCII_S0 (s0 : ByteArray) (s0' : ByteArray) : AS := ⟨[(0, str s0'), (1, .ref setT)], [], 0⟩
abbrev strings_trimLeftASCII_V (s0 : ByteArray) (r0 : ByteArray) (I0 : ByteArray → Prop) (M0 : ByteArray → Nat) : Prop := I0 s0
abbrev strings_trimLeftASCII_V0 (s0 : ByteArray) (r0 : ByteArray) (I0 : ByteArray → Prop) (M0 : ByteArray → Nat) (s0' : ByteArray) : Prop := ((((s0'.size : Nat) : Int) > 0 → (Idx 0 s0'.size) ∧ (∃ (contains1 : Bool), Ret Tryd.prog XS 92 [.ref setT, .sc (.int .u8 (bt s0' 0))] (boo contains1) ∧ ((contains1 = true → (Slc 1 ((s0'.size : Nat) : Int) s0'.size) ∧ I0 (s0'.extract (1 : Int).toNat (((s0'.size : Nat) : Int) : Int).toNat) ∧ M0 (s0'.extract (1 : Int).toNat (((s0'.size : Nat) : Int) : Int).toNat) < M0 s0') ∧ (contains1 = false → r0 = s0')))) ∧ (¬ (((s0'.size : Nat) : Int) > 0) → r0 = s0'))
theorem strings_trimLeftASCII_W0 (s0 : ByteArray) (r0 : ByteArray) (I0 : ByteArray → Prop) (M0 : ByteArray → Nat) (h0 : ∀ (s0' : ByteArray), I0 s0' → strings_trimLeftASCII_V0 s0 r0 I0 M0 s0') : ∀ (x : ByteArray), I0 x → loopQ Tryd.prog XS Tryd.f79 0 (str r0) [] (strings_trimLeftASCII_S0 s0 x) := by
  intro x0 hx0
  refine loop_rule (fun (x : ByteArray) => I0 x) (fun (x : ByteArray) => M0 x) (fun (x : ByteArray) => strings_trimLeftASCII_S0 s0 x) x0 hx0 ?_
  intro s0' hx
  have h := h0 s0' hx
  clear hx hx0 x0
  have e_1 := fun {o : Orc} {q : List Prop} (r : At o q) => (d11 (olens Tryd.prog 9 s0' (by kernel_rfl)) r)
  by_cases c1 : ((s0'.size : Nat) : Int) > 0
  · have h := h.1 c1
    obtain ⟨c2, contains1, c3, h⟩ := h
    have e_2 := fun {o : Orc} {q : List Prop} (r : At o q) => (d11 (abt (dec_t c1)) (d11 (obtt c2) (d11 (ocs c3) r)))
    rcases Bool.eq_false_or_eq_true contains1 with c4 | c4
    · have h := h.1 c4
      obtain ⟨c5, h⟩ := h
      exact sb (ts := [0, 1]) (ids := []) (d := 0) (s0 := ⟨[(0, str (s0'.extract (1 : Int).toNat (((s0'.size : Nat) : Int) : Int).toNat)), (1, .ref setT)], [], 0⟩) (e_1 (e_2 (d11 (abf (not_f c4)) (d11 (At.mk (allc (ob_scut c5) alln) : At [.val (str (s0'.extract (1 : Int).toNat (((s0'.size : Nat) : Int) : Int).toNat))] [(0 : Int) ≤ 1 ∧ 1 ≤ ((s0'.size : Nat) : Int) ∧ ((s0'.size : Nat) : Int) ≤ ((s0'.size : Nat) : Int) ∧ (s0'.extract (1 : Int).toNat (((s0'.size : Nat) : Int) : Int).toNat) = (s0'.extract (1 : Int).toNat (((s0'.size : Nat) : Int) : Int).toNat)]) az)))) (by kernel_rfl) (by kernel_rfl) rfl (s0'.extract (1 : Int).toNat (((s0'.size : Nat) : Int) : Int).toNat) h.1 h.2 (Weak.anew [] (by rfl) (wt_cons rfl wk_sc (wt_cons rfl wk_ref wt_nil)) wm_nil)
    · have h := h.2 c4
      rw [h]
      exact sr (ids := []) (vs := [str s0']) (mem := []) (e_1 (e_2 (d11 (abt (not_t c4)) az))) (by kernel_rfl) (by kernel_rfl) (rts_sc rfl)
  · have h := h.2 c1
    rw [h]
    exact sr (ids := []) (vs := [str s0']) (mem := []) (e_1 (d11 (abf (dec_f c1)) az)) (by kernel_rfl) (by kernel_rfl) (rts_sc rfl)
theorem strings_trimLeftASCII_W (s0 : ByteArray) (r0 : ByteArray) (I0 : ByteArray → Prop) (M0 : ByteArray → Nat) (h : strings_trimLeftASCII_V s0 r0 I0 M0) (h0 : ∀ (s0' : ByteArray), I0 s0' → strings_trimLeftASCII_V0 s0 r0 I0 M0 s0') : Ret Tryd.prog XS 79 [str s0, .ref setT] (str r0) := by
  refine fn_rule Tryd.func79 (by kernel_rfl) (by kernel_rfl) (by kernel_rfl) (by kernel_rfl) ?_
  exact sl (ts := [0, 1]) (ids := []) (d := 0) (s0 := ⟨[(0, str s0), (1, .ref setT)], [], 0⟩) az (by kernel_rfl) (by kernel_rfl) (Weak.anew [] (by rfl) (wt_cons rfl wk_sc (wt_cons rfl wk_ref wt_nil)) wm_nil) (strings_trimLeftASCII_W0 s0 r0 I0 M0 h0 s0 h)

-- outline.edges$1
abbrev outline_edges_1_V (y : Edge) (e1 : Edge) (r0 : Bool) : Prop := r0 = (y.name.toList == e1.name.toList)
theorem outline_edges_1_W (y : Edge) (e1 : Edge) (r0 : Bool) (h : outline_edges_1_V y e1 r0) : Ret Tryd.prog XS 50 [.agg [str y.name, .sl 2 (y.line.map cSpot)], .ref [str e1.name, .sl 2 (e1.line.map cSpot)]] (boo r0) := by
  refine fn_rule Tryd.func50 (by kernel_rfl) (by kernel_rfl) (by kernel_rfl) (by kernel_rfl) ?_
  rw [h]
  exact sr (ids := []) (vs := [boo (y.name.toList == e1.name.toList)]) (mem := []) az (by kernel_rfl) (by kernel_rfl) (rts_sc rfl)

-- slices.ContainsFunc[[]api.Edge,api.Edge]
abbrev slices_ContainsFunc_api_Edge_api_Edge_V (s0 : List Edge) (e1 : Edge) (r0 : Bool) : Prop := (∃ (edge1 : Int), Ret Tryd.prog XS 55 [.sl 2 (s0.map cEdge), .fn 50 [] [.ref [str e1.name, .sl 2 (e1.line.map cSpot)]]] (int edge1) ∧ r0 = (decide (edge1 ≥ 0)))
theorem slices_ContainsFunc_api_Edge_api_Edge_W (s0 : List Edge) (e1 : Edge) (r0 : Bool) (h : slices_ContainsFunc_api_Edge_api_Edge_V s0 e1 r0) : Ret Tryd.prog XS 49 [.sl 2 (s0.map cEdge), .fn 50 [] [.ref [str e1.name, .sl 2 (e1.line.map cSpot)]]] (boo r0) := by
  refine fn_rule Tryd.func49 (by kernel_rfl) (by kernel_rfl) (by kernel_rfl) (by kernel_rfl) ?_
  obtain ⟨edge1, c1, h⟩ := h
  rw [h]
  exact sr (ids := []) (vs := [boo (decide (edge1 ≥ 0))]) (mem := []) (d12 (ocl [] [] [.sl 2 (s0.map cEdge), .fn 50 [] [.ref [str e1.name, .sl 2 (e1.line.map cSpot)]]] (as_cons (ArgTo.same rfl) (as_cons (at_fn as_nil (as_cons (ArgTo.same rfl) as_nil)) as_nil)) c1) az) (by kernel_rfl) (by kernel_rfl) (rts_sc rfl)

-- slices.IndexFunc[[]api.Edge,api.Edge]
def slices_IndexFunc_api_Edge_api_Edge_S0 (s0 : List Edge) (e1 : Edge) (v8 : Int) : AS := ⟨[(0, .sl 2 (s0.map cEdge)), (1, .fn 50 [] [.ref [str e1.name, .sl 2 (e1.line.map cSpot)]]), (7, int ((s0.length : Nat) : Int)), (8, int v8)], [], 0⟩
abbrev slices_IndexFunc_api_Edge_api_Edge_V (s0 : List Edge) (e1 : Edge) (r0 : Int) (I0 : Int → Prop) (M0 : Int → Nat) : Prop := I0 0
abbrev slices_IndexFunc_api_Edge_api_Edge_V0 (s0 : List Edge) (e1 : Edge) (r0 : Int) (I0 : Int → Prop) (M0 : Int → Nat) (v8 : Int) : Prop := ((v8 < ((s0.length : Nat) : Int) → (Idx v8 s0.length) ∧ (∃ (edges11 : Bool), Ret Tryd.prog XS 50 [.agg [str ((ai s0 v8).name), .sl 2 (((ai s0 v8).line).map cSpot)], .ref [str e1.name, .sl 2 (e1.line.map cSpot)]] (boo edges11) ∧ ((edges11 = true → r0 = v8) ∧ (edges11 = false → (InR (v8 + 1)) ∧ I0 (v8 + 1) ∧ M0 (v8 + 1) < M0 v8)))) ∧ (¬ (v8 < ((s0.length : Nat) : Int)) → r0 = (-1)))
theorem slices_IndexFunc_api_Edge_api_Edge_W0 (s0 : List Edge) (e1 : Edge) (r0 : Int) (I0 : Int → Prop) (M0 : Int → Nat) (h0 : ∀ (v8 : Int), I0 v8 → slices_IndexFunc_api_Edge_api_Edge_V0 s0 e1 r0 I0 M0 v8) : ∀ (x : Int), I0 x → loopQ Tryd.prog XS Tryd.f55 0 (int r0) [] (slices_IndexFunc_api_Edge_api_Edge_S0 s0 e1 x) := by
  intro x0 hx0
  refine loop_rule (fun (x : Int) => I0 x) (fun (x : Int) => M0 x) (fun (x : Int) => slices_IndexFunc_api_Edge_api_Edge_S0 s0 e1 x) x0 hx0 ?_
  intro v8 hx
  have h := h0 v8 hx
  clear hx hx0 x0
  by_cases c1 : v8 < ((s0.length : Nat) : Int)
  · have h := h.1 c1
    obtain ⟨c2, edges11, c3, h⟩ := h
    have e_1 := fun {o : Orc} {q : List Prop} (r : At o q) => (d11 (abt (dec_t c1)) (d11 (oidx cEdge c2) (d11 (ocs c3) r)))
    rcases Bool.eq_false_or_eq_true edges11 with c4 | c4
    · have h := h.1 c4
      rw [h]
      exact sr (ids := []) (vs := [int v8]) (mem := []) (e_1 (d11 (abt c4) az)) (by kernel_rfl) (by kernel_rfl) (rts_sc rfl)
    · have h := h.2 c4
      obtain ⟨c5, h⟩ := h
      exact sb (ts := [0, 1, 7, 8]) (ids := []) (d := 0) (s0 := ⟨[(0, .sl 2 (s0.map cEdge)), (1, .fn 50 [] [.ref [str e1.name, .sl 2 (e1.line.map cSpot)]]), (7, int ((s0.length : Nat) : Int)), (8, int (v8 + 1))], [], 0⟩) (e_1 (d11 (abf c4) (d11 (oadd Tryd.prog 3 (wi64 c5)) az))) (by kernel_rfl) (by kernel_rfl) rfl (v8 + 1) h.1 h.2 (Weak.anew [] (by rfl) (wt_cons rfl wk_sl (wt_cons rfl (wk_fn wl_nil (wl_cons wk_ref wl_nil)) (wt_cons rfl wk_sc (wt_cons rfl wk_sc wt_nil)))) wm_nil)
  · have h := h.2 c1
    rw [h]
    exact sr (ids := []) (vs := [int (-1)]) (mem := []) (d11 (abf (dec_f c1)) az) (by kernel_rfl) (by kernel_rfl) (rts_sc rfl)
theorem slices_IndexFunc_api_Edge_api_Edge_W (s0 : List Edge) (e1 : Edge) (r0 : Int) (I0 : Int → Prop) (M0 : Int → Nat) (h : slices_IndexFunc_api_Edge_api_Edge_V s0 e1 r0 I0 M0) (h0 : ∀ (v8 : Int), I0 v8 → slices_IndexFunc_api_Edge_api_Edge_V0 s0 e1 r0 I0 M0 v8) : Ret Tryd.prog XS 55 [.sl 2 (s0.map cEdge), .fn 50 [] [.ref [str e1.name, .sl 2 (e1.line.map cSpot)]]] (int r0) := by
  refine fn_rule Tryd.func55 (by kernel_rfl) (by kernel_rfl) (by kernel_rfl) (by kernel_rfl) ?_
  exact sl (ts := [0, 1, 7, 8]) (ids := []) (d := 0) (s0 := ⟨[(0, .sl 2 (s0.map cEdge)), (1, .fn 50 [] [.ref [str e1.name, .sl 2 (e1.line.map cSpot)]]), (7, int ((s0.length : Nat) : Int)), (8, int 0)], [], 0⟩) (d11 (olen cEdge Tryd.prog 56 2 s0 (by kernel_rfl)) az) (by kernel_rfl) (by kernel_rfl) (Weak.anew [] (by rfl) (wt_cons rfl wk_sl (wt_cons rfl (wk_fn wl_nil (wl_cons wk_ref wl_nil)) (wt_cons rfl wk_sc (wt_cons rfl wk_sc wt_nil)))) wm_nil) (slices_IndexFunc_api_Edge_api_Edge_W0 s0 e1 r0 I0 M0 h0 0 h)

-- polyline.Check
def polyline_Check_S0 (l : List Spot) (v16 : Int) : AS := ⟨[(0, .sl 2 (l.map cSpot)), (14, .sl 2 (l.map cSpot)), (15, int ((l.length : Nat) : Int)), (16, int v16)], [], 0⟩
def polyline_Check_S1 (l : List Spot) (i5 : Int) : AS := ⟨[(0, .sl 2 (l.map cSpot)), (5, int i5)], [], 0⟩
abbrev polyline_Check_V (l : List Spot) (r0 : Int) (I0 : Int → Prop) (M0 : Int → Nat) (I1 : Int → Prop) (M1 : Int → Nat) : Prop := ((((l.length : Nat) : Int) > 40 → r0 = 5) ∧ (¬ (((l.length : Nat) : Int) > 40) → ((((l.length : Nat) : Int) < 2 → r0 = 11) ∧ (¬ (((l.length : Nat) : Int) < 2) → I0 0))))
abbrev polyline_Check_V0 (l : List Spot) (r0 : Int) (I0 : Int → Prop) (M0 : Int → Nat) (I1 : Int → Prop) (M1 : Int → Nat) (v16 : Int) : Prop := ((v16 < ((l.length : Nat) : Int) → (Idx v16 l.length) ∧ (∃ (coord1 : Bool), Ret Tryd.prog XS 45 [int ((ai l v16).x)] (boo coord1) ∧ ((coord1 = true → (∃ (coord2 : Bool), Ret Tryd.prog XS 45 [int ((ai l v16).y)] (boo coord2) ∧ ((coord2 = true → (InR (v16 + 1)) ∧ I0 (v16 + 1) ∧ M0 (v16 + 1) < M0 v16) ∧ (coord2 = false → r0 = 3)))) ∧ (coord1 = false → r0 = 3)))) ∧ (¬ (v16 < ((l.length : Nat) : Int)) → I1 1))
abbrev polyline_Check_V1 (l : List Spot) (r0 : Int) (I0 : Int → Prop) (M0 : Int → Nat) (I1 : Int → Prop) (M1 : Int → Nat) (i5 : Int) : Prop := ((i5 < ((l.length : Nat) : Int) → (Idx i5 l.length) ∧ (InR (i5 - 1)) ∧ (Idx (i5 - 1) l.length) ∧ (((ai l i5) = (ai l (i5 - 1)) → r0 = 11) ∧ (¬ ((ai l i5) = (ai l (i5 - 1))) → (InR (i5 + 1)) ∧ I1 (i5 + 1) ∧ M1 (i5 + 1) < M1 i5))) ∧ (¬ (i5 < ((l.length : Nat) : Int)) → r0 = 0))
theorem polyline_Check_W1 (l : List Spot) (r0 : Int) (I0 : Int → Prop) (M0 : Int → Nat) (I1 : Int → Prop) (M1 : Int → Nat) (h0 : ∀ (v16 : Int), I0 v16 → polyline_Check_V0 l r0 I0 M0 I1 M1 v16) (h1 : ∀ (i5 : Int), I1 i5 → polyline_Check_V1 l r0 I0 M0 I1 M1 i5) : ∀ (x : Int), I1 x → loopQ Tryd.prog XS Tryd.f36 1 (int r0) [] (polyline_Check_S1 l x) := by
  intro x0 hx0
  refine loop_rule (fun (x : Int) => I1 x) (fun (x : Int) => M1 x) (fun (x : Int) => polyline_Check_S1 l x) x0 hx0 ?_
  intro i5 hx
  have h := h1 i5 hx
  clear hx hx0 x0
  have g_1 := (olen cSpot Tryd.prog 29 2 l (by kernel_rfl))
  by_cases c1 : i5 < ((l.length : Nat) : Int)
  · have h := h.1 c1
    obtain ⟨c2, c3, c4, h⟩ := h
    have g_2 := (abt (dec_t c1))
    have g_3 := (oidx cSpot c2)
    have e_4 := fun {o : Orc} {q : List Prop} (r : At o q) => (d11 g_2 (d11 g_3 (d11 (osub Tryd.prog 3 (wi64 c3)) (d11 (oidx cSpot c4) r))))
    by_cases c5 : (ai l i5) = (ai l (i5 - 1))
    · have h := h.1 c5
      rw [h]
      exact sr (ids := []) (vs := [int 11]) (mem := []) (d11 g_1 (e_4 (d11 (abt (sSpot_t c5)) az))) (by kernel_rfl) (by kernel_rfl) (rts_sc rfl)
    · have h := h.2 c5
      obtain ⟨c6, h⟩ := h
      exact sb (ts := [0, 5]) (ids := []) (d := 0) (s0 := ⟨[(0, .sl 2 (l.map cSpot)), (5, int (i5 + 1))], [], 0⟩) (d11 g_1 (e_4 (d11 (abf (sSpot_f c5)) (d11 (oadd Tryd.prog 3 (wi64 c6)) az)))) (by kernel_rfl) (by kernel_rfl) rfl (i5 + 1) h.1 h.2 (Weak.anew [] (by rfl) (wt_cons rfl wk_sl (wt_cons rfl wk_sc wt_nil)) wm_nil)
  · have h := h.2 c1
    have g_5 := (abf (dec_f c1))
    rw [h]
    exact sr (ids := []) (vs := [int 0]) (mem := []) (d11 g_1 (d11 g_5 az)) (by kernel_rfl) (by kernel_rfl) (rts_sc rfl)
theorem polyline_Check_W0 (l : List Spot) (r0 : Int) (I0 : Int → Prop) (M0 : Int → Nat) (I1 : Int → Prop) (M1 : Int → Nat) (h0 : ∀ (v16 : Int), I0 v16 → polyline_Check_V0 l r0 I0 M0 I1 M1 v16) (h1 : ∀ (i5 : Int), I1 i5 → polyline_Check_V1 l r0 I0 M0 I1 M1 i5) : ∀ (x : Int), I0 x → loopQ Tryd.prog XS Tryd.f36 0 (int r0) [] (polyline_Check_S0 l x) := by
  intro x0 hx0
  refine loop_rule (fun (x : Int) => I0 x) (fun (x : Int) => M0 x) (fun (x : Int) => polyline_Check_S0 l x) x0 hx0 ?_
  intro v16 hx
  have h := h0 v16 hx
  clear hx hx0 x0
  by_cases c1 : v16 < ((l.length : Nat) : Int)
  · have h := h.1 c1
    obtain ⟨c2, coord1, c3, h⟩ := h
    have g_6 := (abt (dec_t c1))
    have g_7 := (oidx cSpot c2)
    have e_8 := fun {o : Orc} {q : List Prop} (r : At o q) => (d11 g_6 (d11 g_7 (d11 (ocs c3) r)))
    rcases Bool.eq_false_or_eq_true coord1 with c4 | c4
    · have h := h.1 c4
      obtain ⟨coord2, c5, h⟩ := h
      have g_9 := (abf (not_f c4))
      have e_10 := fun {o : Orc} {q : List Prop} (r : At o q) => (d11 g_9 (d11 g_9 (d11 g_9 (d11 (ocs c5) (d11 g_9 (d11 g_9 r))))))
      rcases Bool.eq_false_or_eq_true coord2 with c6 | c6
      · have h := h.1 c6
        obtain ⟨c7, h⟩ := h
        exact sb (ts := [0, 14, 15, 16]) (ids := []) (d := 0) (s0 := ⟨[(0, .sl 2 (l.map cSpot)), (14, .sl 2 (l.map cSpot)), (15, int ((l.length : Nat) : Int)), (16, int (v16 + 1))], [], 1⟩) (e_8 (e_10 (d11 (abf (not_f c6)) (d11 (oadd Tryd.prog 3 (wi64 c7)) az)))) (by kernel_rfl) (by kernel_rfl) rfl (v16 + 1) h.1 h.2 (Weak.anew [] (by rfl) (wt_cons rfl wk_sl (wt_cons rfl wk_sl (wt_cons rfl wk_sc (wt_cons rfl wk_sc wt_nil)))) wm_nil)
      · have h := h.2 c6
        rw [h]
        exact sr (ids := []) (vs := [int 3]) (mem := []) (e_8 (e_10 (d11 (abt (not_t c6)) az))) (by kernel_rfl) (by kernel_rfl) (rts_sc rfl)
    · have h := h.2 c4
      have g_11 := (abt (not_t c4))
      rw [h]
      exact sr (ids := []) (vs := [int 3]) (mem := []) (e_8 (d11 g_11 (d11 g_11 (d11 g_11 (d11 g_11 (d11 g_11 (d11 abtt az))))))) (by kernel_rfl) (by kernel_rfl) (rts_sc rfl)
  · have h := h.2 c1
    have g_12 := (abf (dec_f c1))
    exact sl (ts := [0, 5]) (ids := []) (d := 1) (s0 := ⟨[(0, .sl 2 (l.map cSpot)), (5, int 1)], [], 0⟩) (d11 g_12 az) (by kernel_rfl) (by kernel_rfl) (Weak.anew [] (by rfl) (wt_cons rfl wk_sl (wt_cons rfl wk_sc wt_nil)) wm_nil) (polyline_Check_W1 l r0 I0 M0 I1 M1 h0 h1 1 h)
theorem polyline_Check_W (l : List Spot) (r0 : Int) (I0 : Int → Prop) (M0 : Int → Nat) (I1 : Int → Prop) (M1 : Int → Nat) (h : polyline_Check_V l r0 I0 M0 I1 M1) (h0 : ∀ (v16 : Int), I0 v16 → polyline_Check_V0 l r0 I0 M0 I1 M1 v16) (h1 : ∀ (i5 : Int), I1 i5 → polyline_Check_V1 l r0 I0 M0 I1 M1 i5) : Ret Tryd.prog XS 36 [.sl 2 (l.map cSpot)] (int r0) := by
  refine fn_rule Tryd.func36 (by kernel_rfl) (by kernel_rfl) (by kernel_rfl) (by kernel_rfl) ?_
  have g_13 := (olen cSpot Tryd.prog 29 2 l (by kernel_rfl))
  by_cases c1 : ((l.length : Nat) : Int) > 40
  · have h := h.1 c1
    have g_14 := (abt (dec_t c1))
    rw [h]
    exact sr (ids := []) (vs := [int 5]) (mem := []) (d11 g_13 (d11 g_14 az)) (by kernel_rfl) (by kernel_rfl) (rts_sc rfl)
  · have h := h.2 c1
    have g_15 := (abf (dec_f c1))
    have e_16 := fun {o : Orc} {q : List Prop} (r : At o q) => (d11 g_15 (d11 g_13 r))
    by_cases c2 : ((l.length : Nat) : Int) < 2
    · have h := h.1 c2
      rw [h]
      exact sr (ids := []) (vs := [int 11]) (mem := []) (d11 g_13 (e_16 (d11 (abt (dec_t c2)) az))) (by kernel_rfl) (by kernel_rfl) (rts_sc rfl)
    · have h := h.2 c2
      exact sl (ts := [0, 14, 15, 16]) (ids := []) (d := 0) (s0 := ⟨[(0, .sl 2 (l.map cSpot)), (14, .sl 2 (l.map cSpot)), (15, int ((l.length : Nat) : Int)), (16, int 0)], [], 0⟩) (d11 g_13 (e_16 (d11 (abf (dec_f c2)) (d11 g_13 az)))) (by kernel_rfl) (by kernel_rfl) (Weak.anew [] (by rfl) (wt_cons rfl wk_sl (wt_cons rfl wk_sl (wt_cons rfl wk_sc (wt_cons rfl wk_sc wt_nil)))) wm_nil) (polyline_Check_W0 l r0 I0 M0 I1 M1 h0 h1 0 h)

-- polyline.coord
abbrev polyline_coord_V (n : Int) (r0 : Bool) : Prop := ((n ≥ (-1048576) → r0 = (decide (n ≤ 1048576))) ∧ (¬ (n ≥ (-1048576)) → r0 = false))
theorem polyline_coord_W (n : Int) (r0 : Bool) (h : polyline_coord_V n r0) : Ret Tryd.prog XS 45 [int n] (boo r0) := by
  refine fn_rule Tryd.func45 (by kernel_rfl) (by kernel_rfl) (by kernel_rfl) (by kernel_rfl) ?_
  by_cases c1 : n ≥ (-1048576)
  · have h := h.1 c1
    have g_1 := (abt (dec_t c1))
    rw [h]
    exact sr (ids := []) (vs := [boo (decide (n ≤ 1048576))]) (mem := []) (d11 g_1 (d11 g_1 (d11 g_1 az))) (by kernel_rfl) (by kernel_rfl) (rts_sc rfl)
  · have h := h.2 c1
    have g_2 := (abf (dec_f c1))
    rw [h]
    exact sr (ids := []) (vs := [boo false]) (mem := []) (d11 g_2 (d11 g_2 (d11 g_2 az))) (by kernel_rfl) (by kernel_rfl) (rts_sc rfl)

-- outline.vertices
def outline_vertices_S0 (l : List Edge) (out3 : List Spot) (v8 : Int) : AS := ⟨[(3, .own 0 0 out3.length), (6, .sl 2 (l.map cEdge)), (7, int ((l.length : Nat) : Int)), (8, int v8)], [(0, .row 2 (out3.map cSpot))], 1⟩
abbrev outline_vertices_V (l : List Edge) (r0 : List Spot) (I0 : (List Spot) → Int → Prop) (M0 : (List Spot) → Int → Nat) : Prop := I0 ([] : List Spot) 0
abbrev outline_vertices_V0 (l : List Edge) (r0 : List Spot) (I0 : (List Spot) → Int → Prop) (M0 : (List Spot) → Int → Nat) (out3 : List Spot) (v8 : Int) : Prop := ((v8 < ((l.length : Nat) : Int) → (Idx v8 l.length) ∧ (InR (((((ai l v8).line).length : Nat) : Int) - 1)) ∧ (Slc 0 (((((ai l v8).line).length : Nat) : Int) - 1) ((ai l v8).line).length) ∧ (Cap 16 (out3 ++ (cut ((ai l v8).line) 0 (((((ai l v8).line).length : Nat) : Int) - 1))).length) ∧ (InR (v8 + 1)) ∧ I0 (out3 ++ (cut ((ai l v8).line) 0 (((((ai l v8).line).length : Nat) : Int) - 1))) (v8 + 1) ∧ M0 (out3 ++ (cut ((ai l v8).line) 0 (((((ai l v8).line).length : Nat) : Int) - 1))) (v8 + 1) < M0 out3 v8) ∧ (¬ (v8 < ((l.length : Nat) : Int)) → r0 = out3))
theorem outline_vertices_W0 (l : List Edge) (r0 : List Spot) (I0 : (List Spot) → Int → Prop) (M0 : (List Spot) → Int → Nat) (h0 : ∀ (out3 : List Spot) (v8 : Int), I0 out3 v8 → outline_vertices_V0 l r0 I0 M0 out3 v8) : ∀ (x : (List Spot) × Int), I0 x.1 x.2 → loopQ Tryd.prog XS Tryd.f43 0 (.fr 2 (r0.map cSpot)) [] (outline_vertices_S0 l x.1 x.2) := by
  intro x0 hx0
  refine loop_rule (fun (x : (List Spot) × Int) => I0 x.1 x.2) (fun (x : (List Spot) × Int) => M0 x.1 x.2) (fun (x : (List Spot) × Int) => outline_vertices_S0 l x.1 x.2) x0 hx0 ?_
  rintro ⟨out3, v8⟩ hx
  have h := h0 out3 v8 hx
  clear hx hx0 x0
  by_cases c1 : v8 < ((l.length : Nat) : Int)
  · have h := h.1 c1
    obtain ⟨c2, c3, c4, c5, c6, h⟩ := h
    exact sb (ts := [3, 6, 7, 8]) (ids := [2]) (d := 0) (s0 := ⟨[(3, .own 2 0 ((out3 ++ (cut ((ai l v8).line) 0 (((((ai l v8).line).length : Nat) : Int) - 1))).length)), (6, .sl 2 (l.map cEdge)), (7, int ((l.length : Nat) : Int)), (8, int (v8 + 1))], [(2, .row 2 ((out3 ++ (cut ((ai l v8).line) 0 (((((ai l v8).line).length : Nat) : Int) - 1))).map cSpot))], 3⟩) (d11 (abt (dec_t c1)) (d11 (oidx cEdge c2) (d11 (olen cSpot Tryd.prog 29 2 ((ai l v8).line) (by kernel_rfl)) (d11 (osub Tryd.prog 3 (wi64 c3)) (d11 (ocut0 cSpot 2 c4) (d11 (oapp cSpot (n := out3.length) rfl c5) (d11 (oadd Tryd.prog 3 (wi64 c6)) az))))))) (by kernel_rfl) (by kernel_rfl) rfl ((out3 ++ (cut ((ai l v8).line) 0 (((((ai l v8).line).length : Nat) : Int) - 1))), (v8 + 1)) h.1 h.2 (Weak.anew [(0, some 2)] (by rfl) (wt_cons rfl (wk_own rfl rfl) (wt_cons rfl wk_sl (wt_cons rfl wk_sc (wt_cons rfl wk_sc wt_nil)))) (wm_row rfl rfl wm_nil))
  · have h := h.2 c1
    rw [h]
    exact sr (ids := [0]) (vs := [.own 0 0 out3.length]) (mem := [(0, .row 2 (out3.map cSpot))]) (d11 (abf (dec_f c1)) az) (by kernel_rfl) (by kernel_rfl) (rts_own rfl rfl rfl rfl)
theorem outline_vertices_W (l : List Edge) (r0 : List Spot) (I0 : (List Spot) → Int → Prop) (M0 : (List Spot) → Int → Nat) (h : outline_vertices_V l r0 I0 M0) (h0 : ∀ (out3 : List Spot) (v8 : Int), I0 out3 v8 → outline_vertices_V0 l r0 I0 M0 out3 v8) : Ret Tryd.prog XS 43 [.sl 2 (l.map cEdge)] (.fr 2 (r0.map cSpot)) := by
  refine fn_rule Tryd.func43 (by kernel_rfl) (by kernel_rfl) (by kernel_rfl) (by kernel_rfl) ?_
  exact sl (ts := [3, 6, 7, 8]) (ids := []) (d := 0) (s0 := ⟨[(3, .nil), (6, .sl 2 (l.map cEdge)), (7, int ((l.length : Nat) : Int)), (8, int 0)], [], 0⟩) (d11 (olen cEdge Tryd.prog 56 2 l (by kernel_rfl)) az) (by kernel_rfl) (by kernel_rfl) (Weak.anew [(0, none)] (by rfl) (wt_cons rfl (wk_nilown rfl) (wt_cons rfl wk_sl (wt_cons rfl wk_sc (wt_cons rfl wk_sc wt_nil)))) (wm_none rfl wm_nil)) (outline_vertices_W0 l r0 I0 M0 h0 (([] : List Spot), 0) h)

-- polygon.Check
def polygon_Check_S0 (p : List Spot) (v13 : Int) : AS := ⟨[(0, .sl 2 (p.map cSpot)), (11, .sl 2 (p.map cSpot)), (12, int ((p.length : Nat) : Int)), (13, int v13)], [], 0⟩
abbrev polygon_Check_V (p : List Spot) (r0 : Int) (I0 : Int → Prop) (M0 : Int → Nat) : Prop := ((((p.length : Nat) : Int) > 40 → r0 = 5) ∧ (¬ (((p.length : Nat) : Int) > 40) → ((((p.length : Nat) : Int) < 3 → r0 = 11) ∧ (¬ (((p.length : Nat) : Int) < 3) → I0 0))))
abbrev polygon_Check_V0 (p : List Spot) (r0 : Int) (I0 : Int → Prop) (M0 : Int → Nat) (v13 : Int) : Prop := ((v13 < ((p.length : Nat) : Int) → (Idx v13 p.length) ∧ (∃ (inside1 : Bool), Ret Tryd.prog XS 51 [int ((ai p v13).x)] (boo inside1) ∧ ((inside1 = true → (∃ (inside2 : Bool), Ret Tryd.prog XS 51 [int ((ai p v13).y)] (boo inside2) ∧ ((inside2 = true → (InR (v13 + 1)) ∧ I0 (v13 + 1) ∧ M0 (v13 + 1) < M0 v13) ∧ (inside2 = false → r0 = 3)))) ∧ (inside1 = false → r0 = 3)))) ∧ (¬ (v13 < ((p.length : Nat) : Int)) → (∃ (simple1 : Bool), Ret Tryd.prog XS 52 [.sl 2 (p.map cSpot)] (boo simple1) ∧ ((simple1 = true → r0 = 0) ∧ (simple1 = false → r0 = 11)))))
theorem polygon_Check_W0 (p : List Spot) (r0 : Int) (I0 : Int → Prop) (M0 : Int → Nat) (h0 : ∀ (v13 : Int), I0 v13 → polygon_Check_V0 p r0 I0 M0 v13) : ∀ (x : Int), I0 x → loopQ Tryd.prog XS Tryd.f42 0 (int r0) [] (polygon_Check_S0 p x) := by
  intro x0 hx0
  refine loop_rule (fun (x : Int) => I0 x) (fun (x : Int) => M0 x) (fun (x : Int) => polygon_Check_S0 p x) x0 hx0 ?_
  intro v13 hx
  have h := h0 v13 hx
  clear hx hx0 x0
  by_cases c1 : v13 < ((p.length : Nat) : Int)
  · have h := h.1 c1
    obtain ⟨c2, inside1, c3, h⟩ := h
    have g_1 := (abt (dec_t c1))
    have e_2 := fun {o : Orc} {q : List Prop} (r : At o q) => (d11 g_1 (d11 (oidx cSpot c2) (d11 (ocs c3) r)))
    rcases Bool.eq_false_or_eq_true inside1 with c4 | c4
    · have h := h.1 c4
      obtain ⟨inside2, c5, h⟩ := h
      have g_3 := (abf (not_f c4))
      have e_4 := fun {o : Orc} {q : List Prop} (r : At o q) => (d11 g_3 (d11 g_3 (d11 g_3 (d11 (ocs c5) (d11 g_3 (d11 g_3 r))))))
      rcases Bool.eq_false_or_eq_true inside2 with c6 | c6
      · have h := h.1 c6
        obtain ⟨c7, h⟩ := h
        exact sb (ts := [0, 11, 12, 13]) (ids := []) (d := 0) (s0 := ⟨[(0, .sl 2 (p.map cSpot)), (11, .sl 2 (p.map cSpot)), (12, int ((p.length : Nat) : Int)), (13, int (v13 + 1))], [], 1⟩) (e_2 (e_4 (d11 (abf (not_f c6)) (d11 (oadd Tryd.prog 3 (wi64 c7)) az)))) (by kernel_rfl) (by kernel_rfl) rfl (v13 + 1) h.1 h.2 (Weak.anew [] (by rfl) (wt_cons rfl wk_sl (wt_cons rfl wk_sl (wt_cons rfl wk_sc (wt_cons rfl wk_sc wt_nil)))) wm_nil)
      · have h := h.2 c6
        rw [h]
        exact sr (ids := []) (vs := [int 3]) (mem := []) (e_2 (e_4 (d11 (abt (not_t c6)) az))) (by kernel_rfl) (by kernel_rfl) (rts_sc rfl)
    · have h := h.2 c4
      have g_5 := (abt (not_t c4))
      rw [h]
      exact sr (ids := []) (vs := [int 3]) (mem := []) (e_2 (d11 g_5 (d11 g_5 (d11 g_5 (d11 g_5 (d11 g_5 (d11 abtt az))))))) (by kernel_rfl) (by kernel_rfl) (rts_sc rfl)
  · have h := h.2 c1
    obtain ⟨simple1, c2, h⟩ := h
    have g_6 := (abf (dec_f c1))
    have e_7 := fun {o : Orc} {q : List Prop} (r : At o q) => (d11 g_6 (d11 (ocs c2) r))
    rcases Bool.eq_false_or_eq_true simple1 with c3 | c3
    · have h := h.1 c3
      rw [h]
      exact sr (ids := []) (vs := [int 0]) (mem := []) (e_7 (d11 (abf (not_f c3)) az)) (by kernel_rfl) (by kernel_rfl) (rts_sc rfl)
    · have h := h.2 c3
      rw [h]
      exact sr (ids := []) (vs := [int 11]) (mem := []) (e_7 (d11 (abt (not_t c3)) az)) (by kernel_rfl) (by kernel_rfl) (rts_sc rfl)
theorem polygon_Check_W (p : List Spot) (r0 : Int) (I0 : Int → Prop) (M0 : Int → Nat) (h : polygon_Check_V p r0 I0 M0) (h0 : ∀ (v13 : Int), I0 v13 → polygon_Check_V0 p r0 I0 M0 v13) : Ret Tryd.prog XS 42 [.sl 2 (p.map cSpot)] (int r0) := by
  refine fn_rule Tryd.func42 (by kernel_rfl) (by kernel_rfl) (by kernel_rfl) (by kernel_rfl) ?_
  have g_8 := (olen cSpot Tryd.prog 29 2 p (by kernel_rfl))
  by_cases c1 : ((p.length : Nat) : Int) > 40
  · have h := h.1 c1
    have g_9 := (abt (dec_t c1))
    rw [h]
    exact sr (ids := []) (vs := [int 5]) (mem := []) (d11 g_8 (d11 g_9 az)) (by kernel_rfl) (by kernel_rfl) (rts_sc rfl)
  · have h := h.2 c1
    have g_10 := (abf (dec_f c1))
    have e_11 := fun {o : Orc} {q : List Prop} (r : At o q) => (d11 g_10 (d11 g_8 r))
    by_cases c2 : ((p.length : Nat) : Int) < 3
    · have h := h.1 c2
      rw [h]
      exact sr (ids := []) (vs := [int 11]) (mem := []) (d11 g_8 (e_11 (d11 (abt (dec_t c2)) az))) (by kernel_rfl) (by kernel_rfl) (rts_sc rfl)
    · have h := h.2 c2
      exact sl (ts := [0, 11, 12, 13]) (ids := []) (d := 0) (s0 := ⟨[(0, .sl 2 (p.map cSpot)), (11, .sl 2 (p.map cSpot)), (12, int ((p.length : Nat) : Int)), (13, int 0)], [], 0⟩) (d11 g_8 (e_11 (d11 (abf (dec_f c2)) (d11 g_8 az)))) (by kernel_rfl) (by kernel_rfl) (Weak.anew [] (by rfl) (wt_cons rfl wk_sl (wt_cons rfl wk_sl (wt_cons rfl wk_sc (wt_cons rfl wk_sc wt_nil)))) wm_nil) (polygon_Check_W0 p r0 I0 M0 h0 0 h)

end Go.Ab
end
