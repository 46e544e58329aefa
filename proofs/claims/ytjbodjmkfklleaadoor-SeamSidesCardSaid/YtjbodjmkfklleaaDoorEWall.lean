/- A part of the proof. Conditions: those of each theorem. -/
import Derived.Test.YtjbodjmkfklleaaDoorETy
import Derived.Test.YtjbodjmkfklleaaDoorEX
import Derived.Test.YtjbodjmkfklleaaDoorEWp5
import Derived.Test.YtjbodjmkfklleaaDoorEWp7
set_option linter.unusedVariables false
set_option linter.unusedSimpArgs false
set_option linter.unusedSectionVars false

section
namespace Go.Ab
open Go.Proofs
set_option maxRecDepth 1000000
set_option linter.unusedVariables false
attribute [local irreducible] todoQ
-- strings.trimRightASCII
def strings_trimRightASCII_S0 (s0 : ByteArray) (s0' : ByteArray) : AS := ⟨[(0, str s0'), (1, .ref setT)], [], 0⟩
abbrev strings_trimRightASCII_V (s0 : ByteArray) (r0 : ByteArray) (I0 : ByteArray → Prop) (M0 : ByteArray → Nat) : Prop := I0 s0
abbrev strings_trimRightASCII_V0 (s0 : ByteArray) (r0 : ByteArray) (I0 : ByteArray → Prop) (M0 : ByteArray → Nat) (s0' : ByteArray) : Prop := ((((s0'.size : Nat) : Int) > 0 → (InR (((s0'.size : Nat) : Int) - 1)) ∧ (Idx (((s0'.size : Nat) : Int) - 1) s0'.size) ∧ (∃ (contains1 : Bool), Ret Tryd.prog XS 92 [.ref setT, .sc (.int .u8 (bt s0' (((s0'.size : Nat) : Int) - 1)))] (boo contains1) ∧ ((contains1 = true → (Slc 0 (((s0'.size : Nat) : Int) - 1) s0'.size) ∧ I0 (s0'.extract (((0 : Nat) : Int) : Int).toNat ((((s0'.size : Nat) : Int) - 1) : Int).toNat) ∧ M0 (s0'.extract (((0 : Nat) : Int) : Int).toNat ((((s0'.size : Nat) : Int) - 1) : Int).toNat) < M0 s0') ∧ (contains1 = false → r0 = s0')))) ∧ (¬ (((s0'.size : Nat) : Int) > 0) → r0 = s0'))
theorem strings_trimRightASCII_W0 (s0 : ByteArray) (r0 : ByteArray) (I0 : ByteArray → Prop) (M0 : ByteArray → Nat) (h0 : ∀ (s0' : ByteArray), I0 s0' → strings_trimRightASCII_V0 s0 r0 I0 M0 s0') : ∀ (x : ByteArray), I0 x → loopQ Tryd.prog XS Tryd.f80 0 (str r0) [] (strings_trimRightASCII_S0 s0 x) := by
  intro x0 hx0
  refine loop_rule (fun (x : ByteArray) => I0 x) (fun (x : ByteArray) => M0 x) (fun (x : ByteArray) => strings_trimRightASCII_S0 s0 x) x0 hx0 ?_
  intro s0' hx
  have h := h0 s0' hx
  clear hx hx0 x0
  have g_1 := (olens Tryd.prog 9 s0' (by kernel_rfl))
  by_cases c1 : ((s0'.size : Nat) : Int) > 0
  · have h := h.1 c1
    obtain ⟨c2, c3, contains1, c4, h⟩ := h
    have g_2 := (osub Tryd.prog 3 (wi64 c2))
    have e_3 := fun {o : Orc} {q : List Prop} (r : At o q) => (d11 (abt (dec_t c1)) (d11 g_1 (d11 g_2 (d11 (obtt c3) (d11 (ocs c4) r)))))
    rcases Bool.eq_false_or_eq_true contains1 with c5 | c5
    · have h := h.1 c5
      obtain ⟨c6, h⟩ := h
      exact sb (ts := [0, 1]) (ids := []) (d := 0) (s0 := ⟨[(0, str (s0'.extract (((0 : Nat) : Int) : Int).toNat ((((s0'.size : Nat) : Int) - 1) : Int).toNat)), (1, .ref setT)], [], 0⟩) (d11 g_1 (e_3 (d11 (abf (not_f c5)) (d11 g_1 (d11 g_2 (d11 (At.mk (allc (ob_scut c6) alln) : At [.val (str (s0'.extract (((0 : Nat) : Int) : Int).toNat ((((s0'.size : Nat) : Int) - 1) : Int).toNat))] [(0 : Int) ≤ ((0 : Nat) : Int) ∧ ((0 : Nat) : Int) ≤ (((s0'.size : Nat) : Int) - 1) ∧ (((s0'.size : Nat) : Int) - 1) ≤ ((s0'.size : Nat) : Int) ∧ (s0'.extract (((0 : Nat) : Int) : Int).toNat ((((s0'.size : Nat) : Int) - 1) : Int).toNat) = (s0'.extract (((0 : Nat) : Int) : Int).toNat ((((s0'.size : Nat) : Int) - 1) : Int).toNat)]) az)))))) (by kernel_rfl) (by kernel_rfl) rfl (s0'.extract (((0 : Nat) : Int) : Int).toNat ((((s0'.size : Nat) : Int) - 1) : Int).toNat) h.1 h.2 (Weak.anew [] (by rfl) (wt_cons rfl wk_sc (wt_cons rfl wk_ref wt_nil)) wm_nil)
    · have h := h.2 c5
      rw [h]
      exact sr (ids := []) (vs := [str s0']) (mem := []) (d11 g_1 (e_3 (d11 (abt (not_t c5)) az))) (by kernel_rfl) (by kernel_rfl) (rts_sc rfl)
  · have h := h.2 c1
    rw [h]
    exact sr (ids := []) (vs := [str s0']) (mem := []) (d11 g_1 (d11 (abf (dec_f c1)) az)) (by kernel_rfl) (by kernel_rfl) (rts_sc rfl)
theorem strings_trimRightASCII_W (s0 : ByteArray) (r0 : ByteArray) (I0 : ByteArray → Prop) (M0 : ByteArray → Nat) (h : strings_trimRightASCII_V s0 r0 I0 M0) (h0 : ∀ (s0' : ByteArray), I0 s0' → strings_trimRightASCII_V0 s0 r0 I0 M0 s0') : Ret Tryd.prog XS 80 [str s0, .ref setT] (str r0) := by
  refine fn_rule Tryd.func80 (by kernel_rfl) (by kernel_rfl) (by kernel_rfl) (by kernel_rfl) ?_
  exact sl (ts := [0, 1]) (ids := []) (d := 0) (s0 := ⟨[(0, str s0), (1, .ref setT)], [], 0⟩) az (by kernel_rfl) (by kernel_rfl) (Weak.anew [] (by rfl) (wt_cons rfl wk_sc (wt_cons rfl wk_ref wt_nil)) wm_nil) (strings_trimRightASCII_W0 s0 r0 I0 M0 h0 s0 h)

-- strings.trimLeftASCII
def strings_trimLeftASCII_S0 (s0 : ByteArray) (s0' : ByteArray) : AS := ⟨[(0, str s0'), (1, .ref setT)], [], 0⟩
abbrev strings_trimLeftASCII_V (s0 : ByteArray) (r0 : ByteArray) (I0 : ByteArray → Prop) (M0 : ByteArray → Nat) : Prop := I0 s0
abbrev strings_trimLeftASCII_V0 (s0 : ByteArray) (r0 : ByteArray) (I0 : ByteArray → Prop) (M0 : ByteArray → Nat) (s0' : ByteArray) : Prop := ((((s0'.size : Nat) : Int) > 0 → (Idx 0 s0'.size) ∧ (∃ (contains1 : Bool), Ret Tryd.prog XS 92 [.ref setT, .sc (.int .u8 (bt s0' 0))] (boo contains1) ∧ ((contains1 = true → (Slc 1 ((s0'.size : Nat) : Int) s0'.size) ∧ I0 (s0'.extract (1 : Int).toNat (((s0'.size : Nat) : Int) : Int).toNat) ∧ M0 (s0'.extract (1 : Int).toNat (((s0'.size : Nat) : Int) : Int).toNat) < M0 s0') ∧ (contains1 = false → r0 = s0')))) ∧ (¬ (((s0'.size : Nat) : Int) > 0) → r0 = s0'))
theorem strings_trimLeftASCII_W0 (s0 : ByteArray) (r0 : ByteArray) (I0 : ByteArray → Prop) (M0 : ByteArray → Nat) (h0 : ∀ (s0' : ByteArray), I0 s0' → strings_trimLeftASCII_V0 s0 r0 I0 M0 s0') : ∀ (x : ByteArray), I0 x → loopQ Tryd.prog XS Tryd.f79 0 (str r0) [] (strings_trimLeftASCII_S0 s0 x) := by
  intro x0 hx0
  refine loop_rule (fun (x : ByteArray) => I0 x) (fun (x : ByteArray) => M0 x) (fun (x : ByteArray) => strings_trimLeftASCII_S0 s0 x) x0 hx0 ?_
  intro s0' hx
  have h := h0 s0' hx
  clear hx hx0 x0
  have e_1 := fun {o : Orc} {q : List Prop} (r : At o q) => (d11 (olens Tryd.prog 9 s0' (by kernel_rfl)) r)
  by_cases c1 : ((s0'.size : Nat) : Int) > 0
  · have h := h.1 c1
    obtain ⟨c2, contains1, c3, h⟩ := h
    have e_2 := fun {o : Orc} {q : List Prop} (r : At o q) => (d11 (abt (dec_t c1)) (d11 (obtt c2) (d11 (ocs c3) r)))
    rcases Bool.eq_false_or_eq_true contains1 with c4 | c4
    · have h := h.1 c4
      obtain ⟨c5, h⟩ := h
      exact sb (ts := [0, 1]) (ids := []) (d := 0) (s0 := ⟨[(0, str (s0'.extract (1 : Int).toNat (((s0'.size : Nat) : Int) : Int).toNat)), (1, .ref setT)], [], 0⟩) (e_1 (e_2 (d11 (abf (not_f c4)) (d11 (At.mk (allc (ob_scut c5) alln) : At [.val (str (s0'.extract (1 : Int).toNat (((s0'.size : Nat) : Int) : Int).toNat))] [(0 : Int) ≤ 1 ∧ 1 ≤ ((s0'.size : Nat) : Int) ∧ ((s0'.size : Nat) : Int) ≤ ((s0'.size : Nat) : Int) ∧ (s0'.extract (1 : Int).toNat (((s0'.size : Nat) : Int) : Int).toNat) = (s0'.extract (1 : Int).toNat (((s0'.size : Nat) : Int) : Int).toNat)]) az)))) (by kernel_rfl) (by kernel_rfl) rfl (s0'.extract (1 : Int).toNat (((s0'.size : Nat) : Int) : Int).toNat) h.1 h.2 (Weak.anew [] (by rfl) (wt_cons rfl wk_sc (wt_cons rfl wk_ref wt_nil)) wm_nil)
    · have h := h.2 c4
      rw [h]
      exact sr (ids := []) (vs := [str s0']) (mem := []) (e_1 (e_2 (d11 (abt (not_t c4)) az))) (by kernel_rfl) (by kernel_rfl) (rts_sc rfl)
  · have h := h.2 c1
    rw [h]
    exact sr (ids := []) (vs := [str s0']) (mem := []) (e_1 (d11 (abf (dec_f c1)) az)) (by kernel_rfl) (by kernel_rfl) (rts_sc rfl)
theorem strings_trimLeftASCII_W (s0 : ByteArray) (r0 : ByteArray) (I0 : ByteArray → Prop) (M0 : ByteArray → Nat) (h : strings_trimLeftASCII_V s0 r0 I0 M0) (h0 : ∀ (s0' : ByteArray), I0 s0' → strings_trimLeftASCII_V0 s0 r0 I0 M0 s0') : Ret Tryd.prog XS 79 [str s0, .ref setT] (str r0) := by
  refine fn_rule Tryd.func79 (by kernel_rfl) (by kernel_rfl) (by kernel_rfl) (by kernel_rfl) ?_
  exact sl (ts := [0, 1]) (ids := []) (d := 0) (s0 := ⟨[(0, str s0), (1, .ref setT)], [], 0⟩) az (by kernel_rfl) (by kernel_rfl) (Weak.anew [] (by rfl) (wt_cons rfl wk_sc (wt_cons rfl wk_ref wt_nil)) wm_nil) (strings_trimLeftASCII_W0 s0 r0 I0 M0 h0 s0 h)

-- outline.edges$1
abbrev outline_edges_1_V (y : Edge) (e1 : Edge) (r0 : Bool) : Prop := r0 = (y.name.toList == e1.name.toList)
theorem outline_edges_1_W (y : Edge) (e1 : Edge) (r0 : Bool) (h : outline_edges_1_V y e1 r0) : Ret Tryd.prog XS 50 [.agg [str y.name, .sl 2 (y.line.map cSpot)], .ref [str e1.name, .sl 2 (e1.line.map cSpot)]] (boo r0) := by
  refine fn_rule Tryd.func50 (by kernel_rfl) (by kernel_rfl) (by kernel_rfl) (by kernel_rfl) ?_
  rw [h]
  exact sr (ids := []) (vs := [boo (y.name.toList == e1.name.toList)]) (mem := []) az (by kernel_rfl) (by kernel_rfl) (rts_sc rfl)

-- slices.ContainsFunc[[]api.Edge,api.Edge]
abbrev slices_ContainsFunc_api_Edge_api_Edge_V (s0 : List Edge) (e1 : Edge) (r0 : Bool) : Prop := (∃ (edge1 : Int), Ret Tryd.prog XS 55 [.sl 2 (s0.map cEdge), .fn 50 [] [.ref [str e1.name, .sl 2 (e1.line.map cSpot)]]] (int edge1) ∧ r0 = (decide (edge1 ≥ 0)))
theorem slices_ContainsFunc_api_Edge_api_Edge_W (s0 : List Edge) (e1 : Edge) (r0 : Bool) (h : slices_ContainsFunc_api_Edge_api_Edge_V s0 e1 r0) : Ret Tryd.prog XS 49 [.sl 2 (s0.map cEdge), .fn 50 [] [.ref [str e1.name, .sl 2 (e1.line.map cSpot)]]] (boo r0) := by
  refine fn_rule Tryd.func49 (by kernel_rfl) (by kernel_rfl) (by kernel_rfl) (by kernel_rfl) ?_
  obtain ⟨edge1, c1, h⟩ := h
  rw [h]
  exact sr (ids := []) (vs := [boo (decide (edge1 ≥ 0))]) (mem := []) (d12 (ocl [] [] [.sl 2 (s0.map cEdge), .fn 50 [] [.ref [str e1.name, .sl 2 (e1.line.map cSpot)]]] (as_cons (ArgTo.same rfl) (as_cons (at_fn as_nil (as_cons (ArgTo.same rfl) as_nil)) as_nil)) c1) az) (by kernel_rfl) (by kernel_rfl) (rts_sc rfl)

-- slices.IndexFunc[[]api.Edge,api.Edge]
def slices_IndexFunc_api_Edge_api_Edge_S0 (s0 : List Edge) (e1 : Edge) (v8 : Int) : AS := ⟨[(0, .sl 2 (s0.map cEdge)), (1, .fn 50 [] [.ref [str e1.name, .sl 2 (e1.line.map cSpot)]]), (7, int ((s0.length : Nat) : Int)), (8, int v8)], [], 0⟩
abbrev slices_IndexFunc_api_Edge_api_Edge_V (s0 : List Edge) (e1 : Edge) (r0 : Int) (I0 : Int → Prop) (M0 : Int → Nat) : Prop := I0 0
abbrev slices_IndexFunc_api_Edge_api_Edge_V0 (s0 : List Edge) (e1 : Edge) (r0 : Int) (I0 : Int → Prop) (M0 : Int → Nat) (v8 : Int) : Prop := ((v8 < ((s0.length : Nat) : Int) → (Idx v8 s0.length) ∧ (∃ (edges11 : Bool), Ret Tryd.prog XS 50 [.agg [str ((ai s0 v8).name), .sl 2 (((ai s0 v8).line).map cSpot)], .ref [str e1.name, .sl 2 (e1.line.map cSpot)]] (boo edges11) ∧ ((edges11 = true → r0 = v8) ∧ (edges11 = false → (InR (v8 + 1)) ∧ I0 (v8 + 1) ∧ M0 (v8 + 1) < M0 v8)))) ∧ (¬ (v8 < ((s0.length : Nat) : Int)) → r0 = (-1)))
theorem slices_IndexFunc_api_Edge_api_Edge_W0 (s0 : List Edge) (e1 : Edge) (r0 : Int) (I0 : Int → Prop) (M0 : Int → Nat) (h0 : ∀ (v8 : Int), I0 v8 → slices_IndexFunc_api_Edge_api_Edge_V0 s0 e1 r0 I0 M0 v8) : ∀ (x : Int), I0 x → loopQ Tryd.prog XS Tryd.f55 0 (int r0) [] (slices_IndexFunc_api_Edge_api_Edge_S0 s0 e1 x) := by
  intro x0 hx0
  refine loop_rule (fun (x : Int) => I0 x) (fun (x : Int) => M0 x) (fun (x : Int) => slices_IndexFunc_api_Edge_api_Edge_S0 s0 e1 x) x0 hx0 ?_
  intro v8 hx
  have h := h0 v8 hx
  clear hx hx0 x0
  by_cases c1 : v8 < ((s0.length : Nat) : Int)
  · have h := h.1 c1
    obtain ⟨c2, edges11, c3, h⟩ := h
    have e_1 := fun {o : Orc} {q : List Prop} (r : At o q) => (d11 (abt (dec_t c1)) (d11 (oidx cEdge c2) (d11 (ocs c3) r)))
    rcases Bool.eq_false_or_eq_true edges11 with c4 | c4
    · have h := h.1 c4
      rw [h]
      exact sr (ids := []) (vs := [int v8]) (mem := []) (e_1 (d11 (abt c4) az)) (by kernel_rfl) (by kernel_rfl) (rts_sc rfl)
    · have h := h.2 c4
      obtain ⟨c5, h⟩ := h
      exact sb (ts := [0, 1, 7, 8]) (ids := []) (d := 0) (s0 := ⟨[(0, .sl 2 (s0.map cEdge)), (1, .fn 50 [] [.ref [str e1.name, .sl 2 (e1.line.map cSpot)]]), (7, int ((s0.length : Nat) : Int)), (8, int (v8 + 1))], [], 0⟩) (e_1 (d11 (abf c4) (d11 (oadd Tryd.prog 3 (wi64 c5)) az))) (by kernel_rfl) (by kernel_rfl) rfl (v8 + 1) h.1 h.2 (Weak.anew [] (by rfl) (wt_cons rfl wk_sl (wt_cons rfl (wk_fn wl_nil (wl_cons wk_ref wl_nil)) (wt_cons rfl wk_sc (wt_cons rfl wk_sc wt_nil)))) wm_nil)
  · have h := h.2 c1
    rw [h]
    exact sr (ids := []) (vs := [int (-1)]) (mem := []) (d11 (abf (dec_f c1)) az) (by kernel_rfl) (by kernel_rfl) (rts_sc rfl)
theorem slices_IndexFunc_api_Edge_api_Edge_W (s0 : List Edge) (e1 : Edge) (r0 : Int) (I0 : Int → Prop) (M0 : Int → Nat) (h : slices_IndexFunc_api_Edge_api_Edge_V s0 e1 r0 I0 M0) (h0 : ∀ (v8 : Int), I0 v8 → slices_IndexFunc_api_Edge_api_Edge_V0 s0 e1 r0 I0 M0 v8) : Ret Tryd.prog XS 55 [.sl 2 (s0.map cEdge), .fn 50 [] [.ref [str e1.name, .sl 2 (e1.line.map cSpot)]]] (int r0) := by
  refine fn_rule Tryd.func55 (by kernel_rfl) (by kernel_rfl) (by kernel_rfl) (by kernel_rfl) ?_
  exact sl (ts := [0, 1, 7, 8]) (ids := []) (d := 0) (s0 := ⟨[(0, .sl 2 (s0.map cEdge)), (1, .fn 50 [] [.ref [str e1.name, .sl 2 (e1.line.map cSpot)]]), (7, int ((s0.length : Nat) : Int)), (8, int 0)], [], 0⟩) (d11 (olen cEdge Tryd.prog 56 2 s0 (by kernel_rfl)) az) (by kernel_rfl) (by kernel_rfl) (Weak.anew [] (by rfl) (wt_cons rfl wk_sl (wt_cons rfl (wk_fn wl_nil (wl_cons wk_ref wl_nil)) (wt_cons rfl wk_sc (wt_cons rfl wk_sc wt_nil)))) wm_nil) (slices_IndexFunc_api_Edge_api_Edge_W0 s0 e1 r0 I0 M0 h0 0 h)

-- polyline.Check
def polyline_Check_S0 (l : List Spot) (v16 : Int) : AS := ⟨[(0, .sl 2 (l.map cSpot)), (14, .sl 2 (l.map cSpot)), (15, int ((l.length : Nat) : Int)), (16, int v16)], [], 0⟩
def polyline_Check_S1 (l : List Spot) (i5 : Int) : AS := ⟨[(0, .sl 2 (l.map cSpot)), (5, int i5)], [], 0⟩
abbrev polyline_Check_V (l : List Spot) (r0 : Int) (I0 : Int → Prop) (M0 : Int → Nat) (I1 : Int → Prop) (M1 : Int → Nat) : Prop := ((((l.length : Nat) : Int) > 40 → r0 = 5) ∧ (¬ (((l.length : Nat) : Int) > 40) → ((((l.length : Nat) : Int) < 2 → r0 = 11) ∧ (¬ (((l.length : Nat) : Int) < 2) → I0 0))))
abbrev polyline_Check_V0 (l : List Spot) (r0 : Int) (I0 : Int → Prop) (M0 : Int → Nat) (I1 : Int → Prop) (M1 : Int → Nat) (v16 : Int) : Prop := ((v16 < ((l.length : Nat) : Int) → (Idx v16 l.length) ∧ (∃ (coord1 : Bool), Ret Tryd.prog XS 45 [int ((ai l v16).x)] (boo coord1) ∧ ((coord1 = true → (∃ (coord2 : Bool), Ret Tryd.prog XS 45 [int ((ai l v16).y)] (boo coord2) ∧ ((coord2 = true → (InR (v16 + 1)) ∧ I0 (v16 + 1) ∧ M0 (v16 + 1) < M0 v16) ∧ (coord2 = false → r0 = 3)))) ∧ (coord1 = false → r0 = 3)))) ∧ (¬ (v16 < ((l.length : Nat) : Int)) → I1 1))
abbrev polyline_Check_V1 (l : List Spot) (r0 : Int) (I0 : Int → Prop) (M0 : Int → Nat) (I1 : Int → Prop) (M1 : Int → Nat) (i5 : Int) : Prop := ((i5 < ((l.length : Nat) : Int) → (Idx i5 l.length) ∧ (InR (i5 - 1)) ∧ (Idx (i5 - 1) l.length) ∧ (((ai l i5) = (ai l (i5 - 1)) → r0 = 11) ∧ (¬ ((ai l i5) = (ai l (i5 - 1))) → (InR (i5 + 1)) ∧ I1 (i5 + 1) ∧ M1 (i5 + 1) < M1 i5))) ∧ (¬ (i5 < ((l.length : Nat) : Int)) → r0 = 0))
theorem polyline_Check_W1 (l : List Spot) (r0 : Int) (I0 : Int → Prop) (M0 : Int → Nat) (I1 : Int → Prop) (M1 : Int → Nat) (h0 : ∀ (v16 : Int), I0 v16 → polyline_Check_V0 l r0 I0 M0 I1 M1 v16) (h1 : ∀ (i5 : Int), I1 i5 → polyline_Check_V1 l r0 I0 M0 I1 M1 i5) : ∀ (x : Int), I1 x → loopQ Tryd.prog XS Tryd.f36 1 (int r0) [] (polyline_Check_S1 l x) := by
  intro x0 hx0
  refine loop_rule (fun (x : Int) => I1 x) (fun (x : Int) => M1 x) (fun (x : Int) => polyline_Check_S1 l x) x0 hx0 ?_
  intro i5 hx
  have h := h1 i5 hx
  clear hx hx0 x0
  have g_1 := (olen cSpot Tryd.prog 29 2 l (by kernel_rfl))
  by_cases c1 : i5 < ((l.length : Nat) : Int)
  · have h := h.1 c1
    obtain ⟨c2, c3, c4, h⟩ := h
    have g_2 := (abt (dec_t c1))
    have g_3 := (oidx cSpot c2)
    have e_4 := fun {o : Orc} {q : List Prop} (r : At o q) => (d11 g_2 (d11 g_3 (d11 (osub Tryd.prog 3 (wi64 c3)) (d11 (oidx cSpot c4) r))))
    by_cases c5 : (ai l i5) = (ai l (i5 - 1))
    · have h := h.1 c5
      rw [h]
      exact sr (ids := []) (vs := [int 11]) (mem := []) (d11 g_1 (e_4 (d11 (abt (sSpot_t c5)) az))) (by kernel_rfl) (by kernel_rfl) (rts_sc rfl)
    · have h := h.2 c5
      obtain ⟨c6, h⟩ := h
      exact sb (ts := [0, 5]) (ids := []) (d := 0) (s0 := ⟨[(0, .sl 2 (l.map cSpot)), (5, int (i5 + 1))], [], 0⟩) (d11 g_1 (e_4 (d11 (abf (sSpot_f c5)) (d11 (oadd Tryd.prog 3 (wi64 c6)) az)))) (by kernel_rfl) (by kernel_rfl) rfl (i5 + 1) h.1 h.2 (Weak.anew [] (by rfl) (wt_cons rfl wk_sl (wt_cons rfl wk_sc wt_nil)) wm_nil)
  · have h := h.2 c1
    have g_5 := (abf (dec_f c1))
    rw [h]
    exact sr (ids := []) (vs := [int 0]) (mem := []) (d11 g_1 (d11 g_5 az)) (by kernel_rfl) (by kernel_rfl) (rts_sc rfl)
theorem polyline_Check_W0 (l : List Spot) (r0 : Int) (I0 : Int → Prop) (M0 : Int → Nat) (I1 : Int → Prop) (M1 : Int → Nat) (h0 : ∀ (v16 : Int), I0 v16 → polyline_Check_V0 l r0 I0 M0 I1 M1 v16) (h1 : ∀ (i5 : Int), I1 i5 → polyline_Check_V1 l r0 I0 M0 I1 M1 i5) : ∀ (x : Int), I0 x → loopQ Tryd.prog XS Tryd.f36 0 (int r0) [] (polyline_Check_S0 l x) := by
  intro x0 hx0
  refine loop_rule (fun (x : Int) => I0 x) (fun (x : Int) => M0 x) (fun (x : Int) => polyline_Check_S0 l x) x0 hx0 ?_
  intro v16 hx
  have h := h0 v16 hx
  clear hx hx0 x0
  by_cases c1 : v16 < ((l.length : Nat) : Int)
  · have h := h.1 c1
    obtain ⟨c2, coord1, c3, h⟩ := h
    have g_6 := (abt (dec_t c1))
    have g_7 := (oidx cSpot c2)
    have e_8 := fun {o : Orc} {q : List Prop} (r : At o q) => (d11 g_6 (d11 g_7 (d11 (ocs c3) r)))
    rcases Bool.eq_false_or_eq_true coord1 with c4 | c4
    · have h := h.1 c4
      obtain ⟨coord2, c5, h⟩ := h
      have g_9 := (abf (not_f c4))
      have e_10 := fun {o : Orc} {q : List Prop} (r : At o q) => (d11 g_9 (d11 g_9 (d11 g_9 (d11 (ocs c5) (d11 g_9 (d11 g_9 r))))))
      rcases Bool.eq_false_or_eq_true coord2 with c6 | c6
      · have h := h.1 c6
        obtain ⟨c7, h⟩ := h
        exact sb (ts := [0, 14, 15, 16]) (ids := []) (d := 0) (s0 := ⟨[(0, .sl 2 (l.map cSpot)), (14, .sl 2 (l.map cSpot)), (15, int ((l.length : Nat) : Int)), (16, int (v16 + 1))], [], 1⟩) (e_8 (e_10 (d11 (abf (not_f c6)) (d11 (oadd Tryd.prog 3 (wi64 c7)) az)))) (by kernel_rfl) (by kernel_rfl) rfl (v16 + 1) h.1 h.2 (Weak.anew [] (by rfl) (wt_cons rfl wk_sl (wt_cons rfl wk_sl (wt_cons rfl wk_sc (wt_cons rfl wk_sc wt_nil)))) wm_nil)
      · have h := h.2 c6
        rw [h]
        exact sr (ids := []) (vs := [int 3]) (mem := []) (e_8 (e_10 (d11 (abt (not_t c6)) az))) (by kernel_rfl) (by kernel_rfl) (rts_sc rfl)
    · have h := h.2 c4
      have g_11 := (abt (not_t c4))
      rw [h]
      exact sr (ids := []) (vs := [int 3]) (mem := []) (e_8 (d11 g_11 (d11 g_11 (d11 g_11 (d11 g_11 (d11 g_11 (d11 abtt az))))))) (by kernel_rfl) (by kernel_rfl) (rts_sc rfl)
  · have h := h.2 c1
    have g_12 := (abf (dec_f c1))
    exact sl (ts := [0, 5]) (ids := []) (d := 1) (s0 := ⟨[(0, .sl 2 (l.map cSpot)), (5, int 1)], [], 0⟩) (d11 g_12 az) (by kernel_rfl) (by kernel_rfl) (Weak.anew [] (by rfl) (wt_cons rfl wk_sl (wt_cons rfl wk_sc wt_nil)) wm_nil) (polyline_Check_W1 l r0 I0 M0 I1 M1 h0 h1 1 h)
theorem polyline_Check_W (l : List Spot) (r0 : Int) (I0 : Int → Prop) (M0 : Int → Nat) (I1 : Int → Prop) (M1 : Int → Nat) (h : polyline_Check_V l r0 I0 M0 I1 M1) (h0 : ∀ (v16 : Int), I0 v16 → polyline_Check_V0 l r0 I0 M0 I1 M1 v16) (h1 : ∀ (i5 : Int), I1 i5 → polyline_Check_V1 l r0 I0 M0 I1 M1 i5) : Ret Tryd.prog XS 36 [.sl 2 (l.map cSpot)] (int r0) := by
  refine fn_rule Tryd.func36 (by kernel_rfl) (by kernel_rfl) (by kernel_rfl) (by kernel_rfl) ?_
  have g_13 := (olen cSpot Tryd.prog 29 2 l (by kernel_rfl))
  by_cases c1 : ((l.length : Nat) : Int) > 40
  · have h := h.1 c1
    have g_14 := (abt (dec_t c1))
    rw [h]
    exact sr (ids := []) (vs := [int 5]) (mem := []) (d11 g_13 (d11 g_14 az)) (by kernel_rfl) (by kernel_rfl) (rts_sc rfl)
  · have h := h.2 c1
    have g_15 := (abf (dec_f c1))
    have e_16 := fun {o : Orc} {q : List Prop} (r : At o q) => (d11 g_15 (d11 g_13 r))
    by_cases c2 : ((l.length : Nat) : Int) < 2
    · have h := h.1 c2
      rw [h]
      exact sr (ids := []) (vs := [int 11]) (mem := []) (d11 g_13 (e_16 (d11 (abt (dec_t c2)) az))) (by kernel_rfl) (by kernel_rfl) (rts_sc rfl)
    · have h := h.2 c2
      exact sl (ts := [0, 14, 15, 16]) (ids := []) (d := 0) (s0 := ⟨[(0, .sl 2 (l.map cSpot)), (14, .sl 2 (l.map cSpot)), (15, int ((l.length : Nat) : Int)), (16, int 0)], [], 0⟩) (d11 g_13 (e_16 (d11 (abf (dec_f c2)) (d11 g_13 az)))) (by kernel_rfl) (by kernel_rfl) (Weak.anew [] (by rfl) (wt_cons rfl wk_sl (wt_cons rfl wk_sl (wt_cons rfl wk_sc (wt_cons rfl wk_sc wt_nil)))) wm_nil) (polyline_Check_W0 l r0 I0 M0 I1 M1 h0 h1 0 h)

-- polyline.coord
abbrev polyline_coord_V (n : Int) (r0 : Bool) : Prop := ((n ≥ (-1048576) → r0 = (decide (n ≤ 1048576))) ∧ (¬ (n ≥ (-1048576)) → r0 = false))
theorem polyline_coord_W (n : Int) (r0 : Bool) (h : polyline_coord_V n r0) : Ret Tryd.prog XS 45 [int n] (boo r0) := by
  refine fn_rule Tryd.func45 (by kernel_rfl) (by kernel_rfl) (by kernel_rfl) (by kernel_rfl) ?_
  by_cases c1 : n ≥ (-1048576)
  · have h := h.1 c1
    have g_1 := (abt (dec_t c1))
    rw [h]
    exact sr (ids := []) (vs := [boo (decide (n ≤ 1048576))]) (mem := []) (d11 g_1 (d11 g_1 (d11 g_1 az))) (by kernel_rfl) (by kernel_rfl) (rts_sc rfl)
  · have h := h.2 c1
    have g_2 := (abf (dec_f c1))
    rw [h]
    exact sr (ids := []) (vs := [boo false]) (mem := []) (d11 g_2 (d11 g_2 (d11 g_2 az))) (by kernel_rfl) (by kernel_rfl) (rts_sc rfl)

-- outline.vertices
def outline_vertices_S0 (l : List Edge) (out3 : List Spot) (v8 : Int) : AS := ⟨[(3, .own 0 0 out3.length), (6, .sl 2 (l.map cEdge)), (7, int ((l.length : Nat) : Int)), (8, int v8)], [(0, .row 2 (out3.map cSpot))], 1⟩
abbrev outline_vertices_V (l : List Edge) (r0 : List Spot) (I0 : (List Spot) → Int → Prop) (M0 : (List Spot) → Int → Nat) : Prop := I0 ([] : List Spot) 0
abbrev outline_vertices_V0 (l : List Edge) (r0 : List Spot) (I0 : (List Spot) → Int → Prop) (M0 : (List Spot) → Int → Nat) (out3 : List Spot) (v8 : Int) : Prop := ((v8 < ((l.length : Nat) : Int) → (Idx v8 l.length) ∧ (InR (((((ai l v8).line).length : Nat) : Int) - 1)) ∧ (Slc 0 (((((ai l v8).line).length : Nat) : Int) - 1) ((ai l v8).line).length) ∧ (Cap 16 (out3 ++ (cut ((ai l v8).line) 0 (((((ai l v8).line).length : Nat) : Int) - 1))).length) ∧ (InR (v8 + 1)) ∧ I0 (out3 ++ (cut ((ai l v8).line) 0 (((((ai l v8).line).length : Nat) : Int) - 1))) (v8 + 1) ∧ M0 (out3 ++ (cut ((ai l v8).line) 0 (((((ai l v8).line).length : Nat) : Int) - 1))) (v8 + 1) < M0 out3 v8) ∧ (¬ (v8 < ((l.length : Nat) : Int)) → r0 = out3))
theorem outline_vertices_W0 (l : List Edge) (r0 : List Spot) (I0 : (List Spot) → Int → Prop) (M0 : (List Spot) → Int → Nat) (h0 : ∀ (out3 : List Spot) (v8 : Int), I0 out3 v8 → outline_vertices_V0 l r0 I0 M0 out3 v8) : ∀ (x : (List Spot) × Int), I0 x.1 x.2 → loopQ Tryd.prog XS Tryd.f43 0 (.fr 2 (r0.map cSpot)) [] (outline_vertices_S0 l x.1 x.2) := by
  intro x0 hx0
  refine loop_rule (fun (x : (List Spot) × Int) => I0 x.1 x.2) (fun (x : (List Spot) × Int) => M0 x.1 x.2) (fun (x : (List Spot) × Int) => outline_vertices_S0 l x.1 x.2) x0 hx0 ?_
  rintro ⟨out3, v8⟩ hx
  have h := h0 out3 v8 hx
  clear hx hx0 x0
  by_cases c1 : v8 < ((l.length : Nat) : Int)
  · have h := h.1 c1
    obtain ⟨c2, c3, c4, c5, c6, h⟩ := h
    exact sb (ts := [3, 6, 7, 8]) (ids := [2]) (d := 0) (s0 := ⟨[(3, .own 2 0 ((out3 ++ (cut ((ai l v8).line) 0 (((((ai l v8).line).length : Nat) : Int) - 1))).length)), (6, .sl 2 (l.map cEdge)), (7, int ((l.length : Nat) : Int)), (8, int (v8 + 1))], [(2, .row 2 ((out3 ++ (cut ((ai l v8).line) 0 (((((ai l v8).line).length : Nat) : Int) - 1))).map cSpot))], 3⟩) (d11 (abt (dec_t c1)) (d11 (oidx cEdge c2) (d11 (olen cSpot Tryd.prog 29 2 ((ai l v8).line) (by kernel_rfl)) (d11 (osub Tryd.prog 3 (wi64 c3)) (d11 (ocut0 cSpot 2 c4) (d11 (oapp cSpot (n := out3.length) rfl c5) (d11 (oadd Tryd.prog 3 (wi64 c6)) az))))))) (by kernel_rfl) (by kernel_rfl) rfl ((out3 ++ (cut ((ai l v8).line) 0 (((((ai l v8).line).length : Nat) : Int) - 1))), (v8 + 1)) h.1 h.2 (Weak.anew [(0, some 2)] (by rfl) (wt_cons rfl (wk_own rfl rfl) (wt_cons rfl wk_sl (wt_cons rfl wk_sc (wt_cons rfl wk_sc wt_nil)))) (wm_row rfl rfl wm_nil))
  · have h := h.2 c1
    rw [h]
    exact sr (ids := [0]) (vs := [.own 0 0 out3.length]) (mem := [(0, .row 2 (out3.map cSpot))]) (d11 (abf (dec_f c1)) az) (by kernel_rfl) (by kernel_rfl) (rts_own rfl rfl rfl rfl)
theorem outline_vertices_W (l : List Edge) (r0 : List Spot) (I0 : (List Spot) → Int → Prop) (M0 : (List Spot) → Int → Nat) (h : outline_vertices_V l r0 I0 M0) (h0 : ∀ (out3 : List Spot) (v8 : Int), I0 out3 v8 → outline_vertices_V0 l r0 I0 M0 out3 v8) : Ret Tryd.prog XS 43 [.sl 2 (l.map cEdge)] (.fr 2 (r0.map cSpot)) := by
  refine fn_rule Tryd.func43 (by kernel_rfl) (by kernel_rfl) (by kernel_rfl) (by kernel_rfl) ?_
  exact sl (ts := [3, 6, 7, 8]) (ids := []) (d := 0) (s0 := ⟨[(3, .nil), (6, .sl 2 (l.map cEdge)), (7, int ((l.length : Nat) : Int)), (8, int 0)], [], 0⟩) (d11 (olen cEdge Tryd.prog 56 2 l (by kernel_rfl)) az) (by kernel_rfl) (by kernel_rfl) (Weak.anew [(0, none)] (by rfl) (wt_cons rfl (wk_nilown rfl) (wt_cons rfl wk_sl (wt_cons rfl wk_sc (wt_cons rfl wk_sc wt_nil)))) (wm_none rfl wm_nil)) (outline_vertices_W0 l r0 I0 M0 h0 (([] : List Spot), 0) h)

-- polygon.Check
def polygon_Check_S0 (p : List Spot) (v13 : Int) : AS := ⟨[(0, .sl 2 (p.map cSpot)), (11, .sl 2 (p.map cSpot)), (12, int ((p.length : Nat) : Int)), (13, int v13)], [], 0⟩
abbrev polygon_Check_V (p : List Spot) (r0 : Int) (I0 : Int → Prop) (M0 : Int → Nat) : Prop := ((((p.length : Nat) : Int) > 40 → r0 = 5) ∧ (¬ (((p.length : Nat) : Int) > 40) → ((((p.length : Nat) : Int) < 3 → r0 = 11) ∧ (¬ (((p.length : Nat) : Int) < 3) → I0 0))))
abbrev polygon_Check_V0 (p : List Spot) (r0 : Int) (I0 : Int → Prop) (M0 : Int → Nat) (v13 : Int) : Prop := ((v13 < ((p.length : Nat) : Int) → (Idx v13 p.length) ∧ (∃ (inside1 : Bool), Ret Tryd.prog XS 51 [int ((ai p v13).x)] (boo inside1) ∧ ((inside1 = true → (∃ (inside2 : Bool), Ret Tryd.prog XS 51 [int ((ai p v13).y)] (boo inside2) ∧ ((inside2 = true → (InR (v13 + 1)) ∧ I0 (v13 + 1) ∧ M0 (v13 + 1) < M0 v13) ∧ (inside2 = false → r0 = 3)))) ∧ (inside1 = false → r0 = 3)))) ∧ (¬ (v13 < ((p.length : Nat) : Int)) → (∃ (simple1 : Bool), Ret Tryd.prog XS 52 [.sl 2 (p.map cSpot)] (boo simple1) ∧ ((simple1 = true → r0 = 0) ∧ (simple1 = false → r0 = 11)))))
theorem polygon_Check_W0 (p : List Spot) (r0 : Int) (I0 : Int → Prop) (M0 : Int → Nat) (h0 : ∀ (v13 : Int), I0 v13 → polygon_Check_V0 p r0 I0 M0 v13) : ∀ (x : Int), I0 x → loopQ Tryd.prog XS Tryd.f42 0 (int r0) [] (polygon_Check_S0 p x) := by
  intro x0 hx0
  refine loop_rule (fun (x : Int) => I0 x) (fun (x : Int) => M0 x) (fun (x : Int) => polygon_Check_S0 p x) x0 hx0 ?_
  intro v13 hx
  have h := h0 v13 hx
  clear hx hx0 x0
  by_cases c1 : v13 < ((p.length : Nat) : Int)
  · have h := h.1 c1
    obtain ⟨c2, inside1, c3, h⟩ := h
    have g_1 := (abt (dec_t c1))
    have e_2 := fun {o : Orc} {q : List Prop} (r : At o q) => (d11 g_1 (d11 (oidx cSpot c2) (d11 (ocs c3) r)))
    rcases Bool.eq_false_or_eq_true inside1 with c4 | c4
    · have h := h.1 c4
      obtain ⟨inside2, c5, h⟩ := h
      have g_3 := (abf (not_f c4))
      have e_4 := fun {o : Orc} {q : List Prop} (r : At o q) => (d11 g_3 (d11 g_3 (d11 g_3 (d11 (ocs c5) (d11 g_3 (d11 g_3 r))))))
      rcases Bool.eq_false_or_eq_true inside2 with c6 | c6
      · have h := h.1 c6
        obtain ⟨c7, h⟩ := h
        exact sb (ts := [0, 11, 12, 13]) (ids := []) (d := 0) (s0 := ⟨[(0, .sl 2 (p.map cSpot)), (11, .sl 2 (p.map cSpot)), (12, int ((p.length : Nat) : Int)), (13, int (v13 + 1))], [], 1⟩) (e_2 (e_4 (d11 (abf (not_f c6)) (d11 (oadd Tryd.prog 3 (wi64 c7)) az)))) (by kernel_rfl) (by kernel_rfl) rfl (v13 + 1) h.1 h.2 (Weak.anew [] (by rfl) (wt_cons rfl wk_sl (wt_cons rfl wk_sl (wt_cons rfl wk_sc (wt_cons rfl wk_sc wt_nil)))) wm_nil)
      · have h := h.2 c6
        rw [h]
        exact sr (ids := []) (vs := [int 3]) (mem := []) (e_2 (e_4 (d11 (abt (not_t c6)) az))) (by kernel_rfl) (by kernel_rfl) (rts_sc rfl)
    · have h := h.2 c4
      have g_5 := (abt (not_t c4))
      rw [h]
      exact sr (ids := []) (vs := [int 3]) (mem := []) (e_2 (d11 g_5 (d11 g_5 (d11 g_5 (d11 g_5 (d11 g_5 (d11 abtt az))))))) (by kernel_rfl) (by kernel_rfl) (rts_sc rfl)
  · have h := h.2 c1
    obtain ⟨simple1, c2, h⟩ := h
    have g_6 := (abf (dec_f c1))
    have e_7 := fun {o : Orc} {q : List Prop} (r : At o q) => (d11 g_6 (d11 (ocs c2) r))
    rcases Bool.eq_false_or_eq_true simple1 with c3 | c3
    · have h := h.1 c3
      rw [h]
      exact sr (ids := []) (vs := [int 0]) (mem := []) (e_7 (d11 (abf (not_f c3)) az)) (by kernel_rfl) (by kernel_rfl) (rts_sc rfl)
    · have h := h.2 c3
      rw [h]
      exact sr (ids := []) (vs := [int 11]) (mem := []) (e_7 (d11 (abt (not_t c3)) az)) (by kernel_rfl) (by kernel_rfl) (rts_sc rfl)
theorem polygon_Check_W (p : List Spot) (r0 : Int) (I0 : Int → Prop) (M0 : Int → Nat) (h : polygon_Check_V p r0 I0 M0) (h0 : ∀ (v13 : Int), I0 v13 → polygon_Check_V0 p r0 I0 M0 v13) : Ret Tryd.prog XS 42 [.sl 2 (p.map cSpot)] (int r0) := by
  refine fn_rule Tryd.func42 (by kernel_rfl) (by kernel_rfl) (by kernel_rfl) (by kernel_rfl) ?_
  have g_8 := (olen cSpot Tryd.prog 29 2 p (by kernel_rfl))
  by_cases c1 : ((p.length : Nat) : Int) > 40
  · have h := h.1 c1
    have g_9 := (abt (dec_t c1))
    rw [h]
    exact sr (ids := []) (vs := [int 5]) (mem := []) (d11 g_8 (d11 g_9 az)) (by kernel_rfl) (by kernel_rfl) (rts_sc rfl)
  · have h := h.2 c1
    have g_10 := (abf (dec_f c1))
    have e_11 := fun {o : Orc} {q : List Prop} (r : At o q) => (d11 g_10 (d11 g_8 r))
    by_cases c2 : ((p.length : Nat) : Int) < 3
    · have h := h.1 c2
      rw [h]
      exact sr (ids := []) (vs := [int 11]) (mem := []) (d11 g_8 (e_11 (d11 (abt (dec_t c2)) az))) (by kernel_rfl) (by kernel_rfl) (rts_sc rfl)
    · have h := h.2 c2
      exact sl (ts := [0, 11, 12, 13]) (ids := []) (d := 0) (s0 := ⟨[(0, .sl 2 (p.map cSpot)), (11, .sl 2 (p.map cSpot)), (12, int ((p.length : Nat) : Int)), (13, int 0)], [], 0⟩) (d11 g_8 (e_11 (d11 (abf (dec_f c2)) (d11 g_8 az)))) (by kernel_rfl) (by kernel_rfl) (Weak.anew [] (by rfl) (wt_cons rfl wk_sl (wt_cons rfl wk_sl (wt_cons rfl wk_sc (wt_cons rfl wk_sc wt_nil)))) wm_nil) (polygon_Check_W0 p r0 I0 M0 h0 0 h)

end Go.Ab
end

section
namespace Go.Ab
open Go.Proofs
set_option maxRecDepth 1000000
set_option linter.unusedVariables false
attribute [local irreducible] todoQ
-- polygon.inside
abbrev polygon_inside_V (n : Int) (r0 : Bool) : Prop := ((n ≥ (-1048576) → r0 = (decide (n ≤ 1048576))) ∧ (¬ (n ≥ (-1048576)) → r0 = false))
theorem polygon_inside_W (n : Int) (r0 : Bool) (h : polygon_inside_V n r0) : Ret Tryd.prog XS 51 [int n] (boo r0) := by
  refine fn_rule Tryd.func51 (by kernel_rfl) (by kernel_rfl) (by kernel_rfl) (by kernel_rfl) ?_
  by_cases c1 : n ≥ (-1048576)
  · have h := h.1 c1
    have g_1 := (abt (dec_t c1))
    rw [h]
    exact sr (ids := []) (vs := [boo (decide (n ≤ 1048576))]) (mem := []) (d11 g_1 (d11 g_1 (d11 g_1 az))) (by kernel_rfl) (by kernel_rfl) (rts_sc rfl)
  · have h := h.2 c1
    have g_2 := (abf (dec_f c1))
    rw [h]
    exact sr (ids := []) (vs := [boo false]) (mem := []) (d11 g_2 (d11 g_2 (d11 g_2 az))) (by kernel_rfl) (by kernel_rfl) (rts_sc rfl)

-- polygon.simple
def polygon_simple_S0 (p : List Spot) (sides1 : List PolygonSide) (v12 : Int) : AS := ⟨[(3, .own 0 0 sides1.length), (10, .own 0 0 sides1.length), (11, int ((sides1.length : Nat) : Int)), (12, int v12)], [(0, .row 4 (sides1.map cPolygonSide))], 1⟩
def polygon_simple_S1 (p : List Spot) (sides1 : List PolygonSide) (v12 : Int) (k7 : Int) : AS := ⟨[(3, .own 0 0 sides1.length), (4, int v12), (5, .ptr 1 0 0), (7, int k7), (10, .own 0 0 sides1.length), (11, int ((sides1.length : Nat) : Int)), (12, int v12)], [(0, .row 4 (sides1.map cPolygonSide)), (1, .box [int ((ai sides1 v12).a.x), int ((ai sides1 v12).a.y), int ((ai sides1 v12).b.x), int ((ai sides1 v12).b.y)])], 2⟩
abbrev polygon_simple_V (p : List Spot) (r0 : Bool) (I0 : (List PolygonSide) → Int → Prop) (M0 : (List PolygonSide) → Int → Nat) (I1 : (List PolygonSide) → Int → Int → Prop) (M1 : (List PolygonSide) → Int → Int → Nat) : Prop := (∃ (sides1 : List PolygonSide), Ret Tryd.prog XS 56 [.sl 2 (p.map cSpot)] (.fr 4 (sides1.map cPolygonSide)) ∧ I0 sides1 0)
abbrev polygon_simple_V0 (p : List Spot) (r0 : Bool) (I0 : (List PolygonSide) → Int → Prop) (M0 : (List PolygonSide) → Int → Nat) (I1 : (List PolygonSide) → Int → Int → Prop) (M1 : (List PolygonSide) → Int → Int → Nat) (sides1 : List PolygonSide) (v12 : Int) : Prop := ((v12 < ((sides1.length : Nat) : Int) → (Idx v12 sides1.length) ∧ (((ai sides1 v12).a = (ai sides1 v12).b → r0 = false) ∧ (¬ ((ai sides1 v12).a = (ai sides1 v12).b) → (InR (v12 + 1)) ∧ (((sides1.length : Nat) : Int) ≠ 0) ∧ (Idx ((v12 + 1).tmod ((sides1.length : Nat) : Int)) sides1.length) ∧ (∃ (holds1 : Bool), Ret Tryd.prog XS 57 [.agg [int ((ai sides1 v12).a.x), int ((ai sides1 v12).a.y), int ((ai sides1 v12).b.x), int ((ai sides1 v12).b.y)], .agg [int ((ai sides1 ((v12 + 1).tmod ((sides1.length : Nat) : Int))).b.x), int ((ai sides1 ((v12 + 1).tmod ((sides1.length : Nat) : Int))).b.y)]] (boo holds1) ∧ ((holds1 = true → r0 = false) ∧ (holds1 = false → (∃ (holds2 : Bool), Ret Tryd.prog XS 57 [.agg [int ((ai sides1 ((v12 + 1).tmod ((sides1.length : Nat) : Int))).a.x), int ((ai sides1 ((v12 + 1).tmod ((sides1.length : Nat) : Int))).a.y), int ((ai sides1 ((v12 + 1).tmod ((sides1.length : Nat) : Int))).b.x), int ((ai sides1 ((v12 + 1).tmod ((sides1.length : Nat) : Int))).b.y)], .agg [int ((ai sides1 v12).a.x), int ((ai sides1 v12).a.y)]] (boo holds2) ∧ ((holds2 = true → r0 = false) ∧ (holds2 = false → (InR (v12 + 2)) ∧ I1 sides1 v12 (v12 + 2)))))))))) ∧ (¬ (v12 < ((sides1.length : Nat) : Int)) → r0 = true))
abbrev polygon_simple_V1 (p : List Spot) (r0 : Bool) (I0 : (List PolygonSide) → Int → Prop) (M0 : (List PolygonSide) → Int → Nat) (I1 : (List PolygonSide) → Int → Int → Prop) (M1 : (List PolygonSide) → Int → Int → Nat) (sides1 : List PolygonSide) (v12 : Int) (k7 : Int) : Prop := ((k7 < ((sides1.length : Nat) : Int) → ((v12 = 0 → (InR (((sides1.length : Nat) : Int) - 1)) ∧ ((k7 = (((sides1.length : Nat) : Int) - 1) → (InR (k7 + 1)) ∧ I1 sides1 v12 (k7 + 1) ∧ M1 sides1 v12 (k7 + 1) < M1 sides1 v12 k7) ∧ (¬ (k7 = (((sides1.length : Nat) : Int) - 1)) → (Idx k7 sides1.length) ∧ (∃ (meets1 : Bool), Ret Tryd.prog XS 58 [.agg [int ((ai sides1 v12).a.x), int ((ai sides1 v12).a.y), int ((ai sides1 v12).b.x), int ((ai sides1 v12).b.y)], .agg [int ((ai sides1 k7).a.x), int ((ai sides1 k7).a.y), int ((ai sides1 k7).b.x), int ((ai sides1 k7).b.y)]] (boo meets1) ∧ ((meets1 = true → r0 = false) ∧ (meets1 = false → (InR (k7 + 1)) ∧ I1 sides1 v12 (k7 + 1) ∧ M1 sides1 v12 (k7 + 1) < M1 sides1 v12 k7)))))) ∧ (¬ (v12 = 0) → (Idx k7 sides1.length) ∧ (∃ (meets1 : Bool), Ret Tryd.prog XS 58 [.agg [int ((ai sides1 v12).a.x), int ((ai sides1 v12).a.y), int ((ai sides1 v12).b.x), int ((ai sides1 v12).b.y)], .agg [int ((ai sides1 k7).a.x), int ((ai sides1 k7).a.y), int ((ai sides1 k7).b.x), int ((ai sides1 k7).b.y)]] (boo meets1) ∧ ((meets1 = true → r0 = false) ∧ (meets1 = false → (InR (k7 + 1)) ∧ I1 sides1 v12 (k7 + 1) ∧ M1 sides1 v12 (k7 + 1) < M1 sides1 v12 k7)))))) ∧ (¬ (k7 < ((sides1.length : Nat) : Int)) → (InR (v12 + 1)) ∧ I0 sides1 (v12 + 1) ∧ M0 sides1 (v12 + 1) < M0 sides1 v12))
theorem polygon_simple_W1 (p : List Spot) (r0 : Bool) (I0 : (List PolygonSide) → Int → Prop) (M0 : (List PolygonSide) → Int → Nat) (I1 : (List PolygonSide) → Int → Int → Prop) (M1 : (List PolygonSide) → Int → Int → Nat) (h0 : ∀ (sides1 : List PolygonSide) (v12 : Int), I0 sides1 v12 → polygon_simple_V0 p r0 I0 M0 I1 M1 sides1 v12) (h1 : ∀ (sides1 : List PolygonSide) (v12 : Int) (k7 : Int), I1 sides1 v12 k7 → polygon_simple_V1 p r0 I0 M0 I1 M1 sides1 v12 k7) (sides1 : List PolygonSide) (v12 : Int) : ∀ (x : Int), I1 sides1 v12 x → loopQ Tryd.prog XS Tryd.f52 1 (boo r0) [backI (fun (x : Int) => I0 sides1 x) (fun (x : Int) => M0 sides1 x) (fun (x : Int) => polygon_simple_S0 p sides1 x) v12] (polygon_simple_S1 p sides1 v12 x) := by
  intro x0 hx0
  refine loop_rule (fun (x : Int) => I1 sides1 v12 x) (fun (x : Int) => M1 sides1 v12 x) (fun (x : Int) => polygon_simple_S1 p sides1 v12 x) x0 hx0 ?_
  intro k7 hx
  have h := h1 sides1 v12 k7 hx
  clear hx hx0 x0
  have g_1 := (oleno Tryd.prog 116 0 0 sides1.length sides1.length rfl (by kernel_rfl))
  by_cases c1 : k7 < ((sides1.length : Nat) : Int)
  · have h := h.1 c1
    have g_2 := (abt (dec_t c1))
    by_cases c2 : v12 = 0
    · have h := h.1 c2
      obtain ⟨c3, h⟩ := h
      have g_3 := (abt (beq_t c2))
      have e_4 := fun {o : Orc} {q : List Prop} (r : At o q) => (d11 g_3 (d11 g_3 (d11 g_3 (d11 g_1 (d11 g_3 (d11 (osub Tryd.prog 3 (wi64 c3)) (d11 g_3 (d11 g_3 r))))))))
      by_cases c4 : k7 = (((sides1.length : Nat) : Int) - 1)
      · have h := h.1 c4
        obtain ⟨c5, h⟩ := h
        exact sb (ts := [3, 4, 5, 7, 10, 11, 12]) (ids := [0, 1]) (d := 0) (s0 := ⟨[(3, .own 0 0 sides1.length), (4, int v12), (5, .ptr 1 0 0), (7, int (k7 + 1)), (10, .own 0 0 sides1.length), (11, int ((sides1.length : Nat) : Int)), (12, int v12)], [(0, .row 4 (sides1.map cPolygonSide)), (1, .box [int ((ai sides1 v12).a.x), int ((ai sides1 v12).a.y), int ((ai sides1 v12).b.x), int ((ai sides1 v12).b.y)])], 2⟩) (d11 g_1 (d11 g_2 (e_4 (d11 (abt (beq_t c4)) (d11 (oadd Tryd.prog 3 (wi64 c5)) az))))) (by kernel_rfl) (by kernel_rfl) rfl (k7 + 1) h.1 h.2 (Weak.anew [(0, some 0), (1, some 1)] (by rfl) (wt_cons rfl (wk_own rfl rfl) (wt_cons rfl wk_sc (wt_cons rfl (wk_ptr rfl) (wt_cons rfl wk_sc (wt_cons rfl (wk_own rfl rfl) (wt_cons rfl wk_sc (wt_cons rfl wk_sc wt_nil))))))) (wm_row rfl rfl (wm_box rfl rfl (wl_cons wk_sc (wl_cons wk_sc (wl_cons wk_sc (wl_cons wk_sc wl_nil)))) wm_nil)))
      · have h := h.2 c4
        obtain ⟨c5, meets1, c6, h⟩ := h
        have e_5 := fun {o : Orc} {q : List Prop} (r : At o q) => (d11 (abf (beq_f c4)) (d01 (oown cPolygonSide (n := sides1.length) rfl c5) (d11 (orow cPolygonSide c5) (d11 (ocs c6) r))))
        rcases Bool.eq_false_or_eq_true meets1 with c7 | c7
        · have h := h.1 c7
          rw [h]
          exact sr (ids := []) (vs := [boo false]) (mem := []) (d11 g_1 (d11 g_2 (e_4 (e_5 (d11 (abt c7) az))))) (by kernel_rfl) (by kernel_rfl) (rts_sc rfl)
        · have h := h.2 c7
          obtain ⟨c8, h⟩ := h
          exact sb (ts := [3, 4, 5, 7, 10, 11, 12]) (ids := [0, 1]) (d := 0) (s0 := ⟨[(3, .own 0 0 sides1.length), (4, int v12), (5, .ptr 1 0 0), (7, int (k7 + 1)), (10, .own 0 0 sides1.length), (11, int ((sides1.length : Nat) : Int)), (12, int v12)], [(0, .row 4 (sides1.map cPolygonSide)), (1, .box [int ((ai sides1 v12).a.x), int ((ai sides1 v12).a.y), int ((ai sides1 v12).b.x), int ((ai sides1 v12).b.y)])], 2⟩) (d11 g_1 (d11 g_2 (e_4 (e_5 (d11 (abf c7) (d11 (oadd Tryd.prog 3 (wi64 c8)) az)))))) (by kernel_rfl) (by kernel_rfl) rfl (k7 + 1) h.1 h.2 (Weak.anew [(0, some 0), (1, some 1)] (by rfl) (wt_cons rfl (wk_own rfl rfl) (wt_cons rfl wk_sc (wt_cons rfl (wk_ptr rfl) (wt_cons rfl wk_sc (wt_cons rfl (wk_own rfl rfl) (wt_cons rfl wk_sc (wt_cons rfl wk_sc wt_nil))))))) (wm_row rfl rfl (wm_box rfl rfl (wl_cons wk_sc (wl_cons wk_sc (wl_cons wk_sc (wl_cons wk_sc wl_nil)))) wm_nil)))
    · have h := h.2 c2
      obtain ⟨c3, meets1, c4, h⟩ := h
      have g_6 := (abf (beq_f c2))
      have e_7 := fun {o : Orc} {q : List Prop} (r : At o q) => (d11 g_6 (d11 g_6 (d11 g_6 (d11 g_6 (d11 g_6 (d11 g_6 (d11 abff (d01 (oown cPolygonSide (n := sides1.length) rfl c3) (d11 (orow cPolygonSide c3) (d11 (ocs c4) r))))))))))
      rcases Bool.eq_false_or_eq_true meets1 with c5 | c5
      · have h := h.1 c5
        rw [h]
        exact sr (ids := []) (vs := [boo false]) (mem := []) (d11 g_1 (d11 g_2 (e_7 (d11 (abt c5) az)))) (by kernel_rfl) (by kernel_rfl) (rts_sc rfl)
      · have h := h.2 c5
        obtain ⟨c6, h⟩ := h
        exact sb (ts := [3, 4, 5, 7, 10, 11, 12]) (ids := [0, 1]) (d := 0) (s0 := ⟨[(3, .own 0 0 sides1.length), (4, int v12), (5, .ptr 1 0 0), (7, int (k7 + 1)), (10, .own 0 0 sides1.length), (11, int ((sides1.length : Nat) : Int)), (12, int v12)], [(0, .row 4 (sides1.map cPolygonSide)), (1, .box [int ((ai sides1 v12).a.x), int ((ai sides1 v12).a.y), int ((ai sides1 v12).b.x), int ((ai sides1 v12).b.y)])], 2⟩) (d11 g_1 (d11 g_2 (e_7 (d11 (abf c5) (d11 (oadd Tryd.prog 3 (wi64 c6)) az))))) (by kernel_rfl) (by kernel_rfl) rfl (k7 + 1) h.1 h.2 (Weak.anew [(0, some 0), (1, some 1)] (by rfl) (wt_cons rfl (wk_own rfl rfl) (wt_cons rfl wk_sc (wt_cons rfl (wk_ptr rfl) (wt_cons rfl wk_sc (wt_cons rfl (wk_own rfl rfl) (wt_cons rfl wk_sc (wt_cons rfl wk_sc wt_nil))))))) (wm_row rfl rfl (wm_box rfl rfl (wl_cons wk_sc (wl_cons wk_sc (wl_cons wk_sc (wl_cons wk_sc wl_nil)))) wm_nil)))
  · have h := h.2 c1
    obtain ⟨c2, h⟩ := h
    have g_8 := (abf (dec_f c1))
    exact sb (ts := [3, 10, 11, 12]) (ids := [0]) (d := 1) (s0 := ⟨[(3, .own 0 0 sides1.length), (10, .own 0 0 sides1.length), (11, int ((sides1.length : Nat) : Int)), (12, int (v12 + 1))], [(0, .row 4 (sides1.map cPolygonSide))], 2⟩) (d11 g_1 (d11 g_8 (d11 (oadd Tryd.prog 3 (wi64 c2)) az))) (by kernel_rfl) (by kernel_rfl) rfl (v12 + 1) h.1 h.2 (Weak.anew [(0, some 0)] (by rfl) (wt_cons rfl (wk_own rfl rfl) (wt_cons rfl (wk_own rfl rfl) (wt_cons rfl wk_sc (wt_cons rfl wk_sc wt_nil)))) (wm_row rfl rfl wm_nil))
theorem polygon_simple_W0 (p : List Spot) (r0 : Bool) (I0 : (List PolygonSide) → Int → Prop) (M0 : (List PolygonSide) → Int → Nat) (I1 : (List PolygonSide) → Int → Int → Prop) (M1 : (List PolygonSide) → Int → Int → Nat) (h0 : ∀ (sides1 : List PolygonSide) (v12 : Int), I0 sides1 v12 → polygon_simple_V0 p r0 I0 M0 I1 M1 sides1 v12) (h1 : ∀ (sides1 : List PolygonSide) (v12 : Int) (k7 : Int), I1 sides1 v12 k7 → polygon_simple_V1 p r0 I0 M0 I1 M1 sides1 v12 k7) (sides1 : List PolygonSide) : ∀ (x : Int), I0 sides1 x → loopQ Tryd.prog XS Tryd.f52 0 (boo r0) [] (polygon_simple_S0 p sides1 x) := by
  intro x0 hx0
  refine loop_rule (fun (x : Int) => I0 sides1 x) (fun (x : Int) => M0 sides1 x) (fun (x : Int) => polygon_simple_S0 p sides1 x) x0 hx0 ?_
  intro v12 hx
  have h := h0 sides1 v12 hx
  clear hx hx0 x0
  by_cases c1 : v12 < ((sides1.length : Nat) : Int)
  · have h := h.1 c1
    obtain ⟨c2, h⟩ := h
    have g_9 := (abt (dec_t c1))
    have e_10 := fun {o : Orc} {q : List Prop} (r : At o q) => (d11 g_9 (d01 (oown cPolygonSide (n := sides1.length) rfl c2) (d11 (orow cPolygonSide c2) r)))
    by_cases c3 : (ai sides1 v12).a = (ai sides1 v12).b
    · have h := h.1 c3
      rw [h]
      exact sr (ids := []) (vs := [boo false]) (mem := []) (e_10 (d11 (abt (sSpot_t c3)) az)) (by kernel_rfl) (by kernel_rfl) (rts_sc rfl)
    · have h := h.2 c3
      obtain ⟨c4, c5, c6, holds1, c7, h⟩ := h
      have g_11 := (oleno Tryd.prog 116 0 0 sides1.length sides1.length rfl (by kernel_rfl))
      have e_12 := fun {o : Orc} {q : List Prop} (r : At o q) => (d11 (abf (sSpot_f c3)) (d11 (oadd Tryd.prog 3 (wi64 c4)) (d11 g_11 (d11 (orem Tryd.prog 3 .i64 (v12 + 1) ((sides1.length : Nat) : Int) c5) (d01 (oown cPolygonSide (n := sides1.length) rfl c6) (d11 (orow cPolygonSide c6) (d11 (ocs c7) r)))))))
      rcases Bool.eq_false_or_eq_true holds1 with c8 | c8
      · have h := h.1 c8
        rw [h]
        exact sr (ids := []) (vs := [boo false]) (mem := []) (e_10 (e_12 (d11 (abt c8) (d11 (abt c8) (d11 (abt c8) (d11 (abt c8) (d11 (abt c8) (d11 abtt az)))))))) (by kernel_rfl) (by kernel_rfl) (rts_sc rfl)
      · have h := h.2 c8
        obtain ⟨holds2, c9, h⟩ := h
        have e_13 := fun {o : Orc} {q : List Prop} (r : At o q) => (d11 (abf c8) (d11 (abf c8) (d11 (abf c8) (d11 (abf c8) (d11 (ocs c9) (d11 (abf c8) r))))))
        rcases Bool.eq_false_or_eq_true holds2 with c10 | c10
        · have h := h.1 c10
          rw [h]
          exact sr (ids := []) (vs := [boo false]) (mem := []) (e_10 (e_12 (e_13 (d11 (abt c10) az)))) (by kernel_rfl) (by kernel_rfl) (rts_sc rfl)
        · have h := h.2 c10
          obtain ⟨c11, h⟩ := h
          exact sl (ts := [3, 4, 5, 7, 10, 11, 12]) (ids := [0, 1]) (d := 0) (s0 := ⟨[(3, .own 0 0 sides1.length), (4, int v12), (5, .ptr 1 0 0), (7, int (v12 + 2)), (10, .own 0 0 sides1.length), (11, int ((sides1.length : Nat) : Int)), (12, int v12)], [(0, .row 4 (sides1.map cPolygonSide)), (1, .box [int ((ai sides1 v12).a.x), int ((ai sides1 v12).a.y), int ((ai sides1 v12).b.x), int ((ai sides1 v12).b.y)])], 3⟩) (e_10 (e_12 (e_13 (d11 (abf c10) (d11 (oadd Tryd.prog 3 (wi64 c11)) az))))) (by kernel_rfl) (by kernel_rfl) (Weak.anew [(0, some 0), (1, some 1)] (by rfl) (wt_cons rfl (wk_own rfl rfl) (wt_cons rfl wk_sc (wt_cons rfl (wk_ptr rfl) (wt_cons rfl wk_sc (wt_cons rfl (wk_own rfl rfl) (wt_cons rfl wk_sc (wt_cons rfl wk_sc wt_nil))))))) (wm_row rfl rfl (wm_box rfl rfl (wl_cons wk_sc (wl_cons wk_sc (wl_cons wk_sc (wl_cons wk_sc wl_nil)))) wm_nil))) (polygon_simple_W1 p r0 I0 M0 I1 M1 h0 h1 sides1 v12 (v12 + 2) h)
  · have h := h.2 c1
    have g_14 := (abf (dec_f c1))
    rw [h]
    exact sr (ids := []) (vs := [boo true]) (mem := []) (d11 g_14 az) (by kernel_rfl) (by kernel_rfl) (rts_sc rfl)
theorem polygon_simple_W (p : List Spot) (r0 : Bool) (I0 : (List PolygonSide) → Int → Prop) (M0 : (List PolygonSide) → Int → Nat) (I1 : (List PolygonSide) → Int → Int → Prop) (M1 : (List PolygonSide) → Int → Int → Nat) (h : polygon_simple_V p r0 I0 M0 I1 M1) (h0 : ∀ (sides1 : List PolygonSide) (v12 : Int), I0 sides1 v12 → polygon_simple_V0 p r0 I0 M0 I1 M1 sides1 v12) (h1 : ∀ (sides1 : List PolygonSide) (v12 : Int) (k7 : Int), I1 sides1 v12 k7 → polygon_simple_V1 p r0 I0 M0 I1 M1 sides1 v12 k7) : Ret Tryd.prog XS 52 [.sl 2 (p.map cSpot)] (boo r0) := by
  refine fn_rule Tryd.func52 (by kernel_rfl) (by kernel_rfl) (by kernel_rfl) (by kernel_rfl) ?_
  obtain ⟨sides1, c1, h⟩ := h
  exact sl (ts := [3, 10, 11, 12]) (ids := [0]) (d := 0) (s0 := ⟨[(3, .own 0 0 ((sides1.map cPolygonSide).length)), (10, .own 0 0 ((sides1.map cPolygonSide).length)), (11, int ((sides1.length : Nat) : Int)), (12, int 0)], [(0, .row 4 (sides1.map cPolygonSide))], 1⟩) (d11 (ocs c1) (d11 (oleno Tryd.prog 116 0 0 ((sides1.map cPolygonSide).length) sides1.length (List.length_map ..) (by kernel_rfl)) az)) (by kernel_rfl) (by kernel_rfl) (Weak.anew [(0, some 0)] (by rfl) (wt_cons rfl (wk_own rfl (List.length_map ..)) (wt_cons rfl (wk_own rfl (List.length_map ..)) (wt_cons rfl wk_sc (wt_cons rfl wk_sc wt_nil)))) (wm_row rfl rfl wm_nil)) (polygon_simple_W0 p r0 I0 M0 I1 M1 h0 h1 sides1 0 h)

-- polygon.sides
def polygon_sides_S0 (p : List Spot) (v11 : Int) (w3 : List PolygonSide) : AS := ⟨[(0, .sl 2 (p.map cSpot)), (3, .own 0 0 w3.length), (9, .sl 2 (p.map cSpot)), (10, int ((p.length : Nat) : Int)), (11, int v11)], [(0, .row 4 (w3.map cPolygonSide))], 1⟩
abbrev polygon_sides_V (p : List Spot) (r0 : List PolygonSide) (I0 : Int → (List PolygonSide) → Prop) (M0 : Int → (List PolygonSide) → Nat) : Prop := (0 ≤ ((p.length : Nat) : Int)) ∧ (((p.length : Nat) : Int) * 32 ≤ 140737488355328) ∧ (((p.length : Nat) : Int) ≤ 9223372036854775807) ∧ I0 0 (List.replicate (((p.length : Nat) : Int) : Int).toNat (⟨(⟨0, 0⟩ : Spot), (⟨0, 0⟩ : Spot)⟩ : PolygonSide))
abbrev polygon_sides_V0 (p : List Spot) (r0 : List PolygonSide) (I0 : Int → (List PolygonSide) → Prop) (M0 : Int → (List PolygonSide) → Nat) (v11 : Int) (w3 : List PolygonSide) : Prop := ((v11 < ((p.length : Nat) : Int) → (Idx v11 p.length) ∧ (InR (v11 + 1)) ∧ (((p.length : Nat) : Int) ≠ 0) ∧ (Idx ((v11 + 1).tmod ((p.length : Nat) : Int)) p.length) ∧ (Idx v11 w3.length) ∧ I0 (v11 + 1) (w3.set (v11 : Int).toNat (⟨(ai p v11), (ai p ((v11 + 1).tmod ((p.length : Nat) : Int)))⟩ : PolygonSide)) ∧ M0 (v11 + 1) (w3.set (v11 : Int).toNat (⟨(ai p v11), (ai p ((v11 + 1).tmod ((p.length : Nat) : Int)))⟩ : PolygonSide)) < M0 v11 w3) ∧ (¬ (v11 < ((p.length : Nat) : Int)) → r0 = w3))
theorem polygon_sides_W0 (p : List Spot) (r0 : List PolygonSide) (I0 : Int → (List PolygonSide) → Prop) (M0 : Int → (List PolygonSide) → Nat) (h0 : ∀ (v11 : Int) (w3 : List PolygonSide), I0 v11 w3 → polygon_sides_V0 p r0 I0 M0 v11 w3) : ∀ (x : Int × (List PolygonSide)), I0 x.1 x.2 → loopQ Tryd.prog XS Tryd.f56 0 (.fr 4 (r0.map cPolygonSide)) [] (polygon_sides_S0 p x.1 x.2) := by
  intro x0 hx0
  refine loop_rule (fun (x : Int × (List PolygonSide)) => I0 x.1 x.2) (fun (x : Int × (List PolygonSide)) => M0 x.1 x.2) (fun (x : Int × (List PolygonSide)) => polygon_sides_S0 p x.1 x.2) x0 hx0 ?_
  rintro ⟨v11, w3⟩ hx
  have h := h0 v11 w3 hx
  clear hx hx0 x0
  by_cases c1 : v11 < ((p.length : Nat) : Int)
  · have h := h.1 c1
    obtain ⟨c2, c3, c4, c5, c6, h⟩ := h
    have g_1 := (oadd Tryd.prog 3 (wi64 c3))
    have g_2 := (olen cSpot Tryd.prog 29 2 p (by kernel_rfl))
    exact sb (ts := [0, 3, 9, 10, 11]) (ids := [0]) (d := 0) (s0 := ⟨[(0, .sl 2 (p.map cSpot)), (3, .own 0 0 w3.length), (9, .sl 2 (p.map cSpot)), (10, int ((p.length : Nat) : Int)), (11, int (v11 + 1))], [(0, .row 4 ((w3.set (v11 : Int).toNat (⟨(ai p v11), (ai p ((v11 + 1).tmod ((p.length : Nat) : Int)))⟩ : PolygonSide)).map cPolygonSide))], 2⟩) (d11 (abt (dec_t c1)) (d11 (oidx cSpot c2) (d11 g_1 (d11 g_2 (d11 (orem Tryd.prog 3 .i64 (v11 + 1) ((p.length : Nat) : Int) c4) (d11 (oidx cSpot c5) (d01 (oown cPolygonSide (n := w3.length) rfl c6) (d21 (oset cPolygonSide (⟨(ai p v11), (ai p ((v11 + 1).tmod ((p.length : Nat) : Int)))⟩ : PolygonSide) c6) (d11 g_1 az))))))))) (by kernel_rfl) (by kernel_rfl) rfl ((v11 + 1), (w3.set (v11 : Int).toNat (⟨(ai p v11), (ai p ((v11 + 1).tmod ((p.length : Nat) : Int)))⟩ : PolygonSide))) h.1 h.2 (Weak.anew [(0, some 0)] (by rfl) (wt_cons rfl wk_sl (wt_cons rfl (wk_own rfl (by simp)) (wt_cons rfl wk_sl (wt_cons rfl wk_sc (wt_cons rfl wk_sc wt_nil))))) (wm_row rfl rfl wm_nil))
  · have h := h.2 c1
    rw [h]
    exact sr (ids := [0]) (vs := [.own 0 0 w3.length]) (mem := [(0, .row 4 (w3.map cPolygonSide))]) (d11 (abf (dec_f c1)) az) (by kernel_rfl) (by kernel_rfl) (rts_own rfl rfl rfl rfl)
theorem polygon_sides_W (p : List Spot) (r0 : List PolygonSide) (I0 : Int → (List PolygonSide) → Prop) (M0 : Int → (List PolygonSide) → Nat) (h : polygon_sides_V p r0 I0 M0) (h0 : ∀ (v11 : Int) (w3 : List PolygonSide), I0 v11 w3 → polygon_sides_V0 p r0 I0 M0 v11 w3) : Ret Tryd.prog XS 56 [.sl 2 (p.map cSpot)] (.fr 4 (r0.map cPolygonSide)) := by
  refine fn_rule Tryd.func56 (by kernel_rfl) (by kernel_rfl) (by kernel_rfl) (by kernel_rfl) ?_
  obtain ⟨c1, c2, c3, h⟩ := h
  have g_3 := (olen cSpot Tryd.prog 29 2 p (by kernel_rfl))
  exact sl (ts := [0, 3, 9, 10, 11]) (ids := [0]) (d := 0) (s0 := ⟨[(0, .sl 2 (p.map cSpot)), (3, .own 0 0 ((List.replicate (((p.length : Nat) : Int) : Int).toNat (⟨(⟨0, 0⟩ : Spot), (⟨0, 0⟩ : Spot)⟩ : PolygonSide)).length)), (9, .sl 2 (p.map cSpot)), (10, int ((p.length : Nat) : Int)), (11, int 0)], [(0, .row 4 ((List.replicate (((p.length : Nat) : Int) : Int).toNat (⟨(⟨0, 0⟩ : Spot), (⟨0, 0⟩ : Spot)⟩ : PolygonSide)).map cPolygonSide))], 1⟩) (d11 g_3 (d11 (omake cPolygonSide (v := (⟨(⟨0, 0⟩ : Spot), (⟨0, 0⟩ : Spot)⟩ : PolygonSide)) (z := [int 0, int 0, int 0, int 0]) (l := ((p.length : Nat) : Int)) (b := 32) rfl c1 c2 c3) (d11 g_3 az))) (by kernel_rfl) (by kernel_rfl) (Weak.anew [(0, some 0)] (by rfl) (wt_cons rfl wk_sl (wt_cons rfl (wk_own rfl rfl) (wt_cons rfl wk_sl (wt_cons rfl wk_sc (wt_cons rfl wk_sc wt_nil))))) (wm_row rfl rfl wm_nil)) (polygon_sides_W0 p r0 I0 M0 h0 (0, (List.replicate (((p.length : Nat) : Int) : Int).toNat (⟨(⟨0, 0⟩ : Spot), (⟨0, 0⟩ : Spot)⟩ : PolygonSide))) h)

-- (polygon.side).holds
abbrev polygon_side_holds_V (s0 : PolygonSide) (q : Spot) (r0 : Bool) : Prop := (∃ (turn1 : Int), Ret Tryd.prog XS 61 [.agg [int s0.a.x, int s0.a.y], .agg [int s0.b.x, int s0.b.y], .agg [int q.x, int q.y]] (int turn1) ∧ ((turn1 = 0 → (∃ (within2 : Bool), Ret Tryd.prog XS 62 [int q.x, int s0.a.x, int s0.b.x] (boo within2) ∧ ((within2 = true → (∃ (within3 : Bool), Ret Tryd.prog XS 62 [int q.y, int s0.a.y, int s0.b.y] (boo within3) ∧ r0 = within3)) ∧ (within2 = false → r0 = false)))) ∧ (¬ (turn1 = 0) → r0 = false)))
theorem polygon_side_holds_W (s0 : PolygonSide) (q : Spot) (r0 : Bool) (h : polygon_side_holds_V s0 q r0) : Ret Tryd.prog XS 57 [.agg [int s0.a.x, int s0.a.y, int s0.b.x, int s0.b.y], .agg [int q.x, int q.y]] (boo r0) := by
  refine fn_rule Tryd.func57 (by kernel_rfl) (by kernel_rfl) (by kernel_rfl) (by kernel_rfl) ?_
  obtain ⟨turn1, c1, h⟩ := h
  have e_1 := fun {o : Orc} {q : List Prop} (r : At o q) => (d11 (ocs c1) r)
  by_cases c2 : turn1 = 0
  · have h := h.1 c2
    obtain ⟨within2, c3, h⟩ := h
    have g_2 := (abt (beq_t c2))
    have e_3 := fun {o : Orc} {q : List Prop} (r : At o q) => (d11 g_2 (d11 g_2 (d11 g_2 (d11 g_2 (d11 g_2 (d11 g_2 (d11 g_2 (d11 g_2 (d11 g_2 (d11 (ocs c3) (d11 g_2 r)))))))))))
    rcases Bool.eq_false_or_eq_true within2 with c4 | c4
    · have h := h.1 c4
      obtain ⟨within3, c5, h⟩ := h
      rw [h]
      exact sr (ids := []) (vs := [boo within3]) (mem := []) (e_1 (e_3 (d11 (abt c4) (d11 (abt c4) (d11 (abt c4) (d11 (abt c4) (d11 (abt c4) (d11 (abt c4) (d11 (abt c4) (d11 (abt c4) (d11 (abt c4) (d11 (ocs c5) (d11 (abt c4) az))))))))))))) (by kernel_rfl) (by kernel_rfl) (rts_sc rfl)
    · have h := h.2 c4
      rw [h]
      exact sr (ids := []) (vs := [boo false]) (mem := []) (e_1 (e_3 (d11 (abf c4) (d11 (abf c4) (d11 (abf c4) (d11 (abf c4) (d11 (abf c4) (d11 (abf c4) (d11 (abf c4) (d11 (abf c4) (d11 (abf c4) (d11 (abf c4) az)))))))))))) (by kernel_rfl) (by kernel_rfl) (rts_sc rfl)
  · have h := h.2 c2
    have g_4 := (abf (beq_f c2))
    rw [h]
    exact sr (ids := []) (vs := [boo false]) (mem := []) (e_1 (d11 g_4 (d11 g_4 (d11 g_4 (d11 g_4 (d11 g_4 (d11 g_4 (d11 g_4 (d11 g_4 (d11 g_4 (d11 g_4 (d11 abff (d11 abff (d11 abff (d11 abff (d11 abff (d11 abff (d11 abff (d11 abff (d11 abff (d11 abff az))))))))))))))))))))) (by kernel_rfl) (by kernel_rfl) (rts_sc rfl)

-- polygon.turn
abbrev polygon_turn_V (a : Spot) (b : Spot) (c : Spot) (r0 : Int) : Prop := (InR (b.x - a.x)) ∧ (InR (c.y - b.y)) ∧ (InR ((b.x - a.x) * (c.y - b.y))) ∧ (InR (b.y - a.y)) ∧ (InR (c.x - b.x)) ∧ (InR ((b.y - a.y) * (c.x - b.x))) ∧ (InR (((b.x - a.x) * (c.y - b.y)) - ((b.y - a.y) * (c.x - b.x)))) ∧ r0 = (((b.x - a.x) * (c.y - b.y)) - ((b.y - a.y) * (c.x - b.x)))
theorem polygon_turn_W (a : Spot) (b : Spot) (c : Spot) (r0 : Int) (h : polygon_turn_V a b c r0) : Ret Tryd.prog XS 61 [.agg [int a.x, int a.y], .agg [int b.x, int b.y], .agg [int c.x, int c.y]] (int r0) := by
  refine fn_rule Tryd.func61 (by kernel_rfl) (by kernel_rfl) (by kernel_rfl) (by kernel_rfl) ?_
  obtain ⟨c1, c2, c3, c4, c5, c6, c7, h⟩ := h
  rw [h]
  exact sr (ids := []) (vs := [int (((b.x - a.x) * (c.y - b.y)) - ((b.y - a.y) * (c.x - b.x)))]) (mem := []) (d11 (osub Tryd.prog 3 (wi64 c1)) (d11 (osub Tryd.prog 3 (wi64 c2)) (d11 (omul Tryd.prog 3 (wi64 c3)) (d11 (osub Tryd.prog 3 (wi64 c4)) (d11 (osub Tryd.prog 3 (wi64 c5)) (d11 (omul Tryd.prog 3 (wi64 c6)) (d11 (osub Tryd.prog 3 (wi64 c7)) az))))))) (by kernel_rfl) (by kernel_rfl) (rts_sc rfl)

-- polygon.within
abbrev polygon_within_V (n : Int) (a : Int) (b : Int) (r0 : Bool) : Prop := (((min a b) ≤ n → r0 = (decide (n ≤ (max a b)))) ∧ (¬ ((min a b) ≤ n) → r0 = false))
theorem polygon_within_W (n : Int) (a : Int) (b : Int) (r0 : Bool) (h : polygon_within_V n a b r0) : Ret Tryd.prog XS 62 [int n, int a, int b] (boo r0) := by
  refine fn_rule Tryd.func62 (by kernel_rfl) (by kernel_rfl) (by kernel_rfl) (by kernel_rfl) ?_
  have e_1 := fun {o : Orc} {q : List Prop} (r : At o q) => (d11 (omin .i64 a b) r)
  by_cases c1 : (min a b) ≤ n
  · have h := h.1 c1
    have g_2 := (abt (dec_t c1))
    rw [h]
    exact sr (ids := []) (vs := [boo (decide (n ≤ (max a b)))]) (mem := []) (e_1 (d11 g_2 (d11 g_2 (d11 g_2 (d11 g_2 (d11 (omax .i64 a b) (d11 g_2 (d11 g_2 az)))))))) (by kernel_rfl) (by kernel_rfl) (rts_sc rfl)
  · have h := h.2 c1
    have g_3 := (abf (dec_f c1))
    rw [h]
    exact sr (ids := []) (vs := [boo false]) (mem := []) (e_1 (d11 g_3 (d11 g_3 (d11 g_3 (d11 g_3 (d11 g_3 (d11 g_3 az))))))) (by kernel_rfl) (by kernel_rfl) (rts_sc rfl)

end Go.Ab
end
