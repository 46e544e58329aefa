/- A part of the proof. Conditions: those of each theorem. -/
import Derived.Test.YtjbodjmkfklleaaDoorETy
import Derived.Test.YtjbodjmkfklleaaDoorEX
set_option linter.unusedVariables false
set_option linter.unusedSimpArgs false
set_option linter.unusedSectionVars false

section
namespace Go.Ab
open Go.Proofs
set_option maxRecDepth 1000000
set_option linter.unusedVariables false
attribute [local irreducible] todoQ
-- (polygon.side).meets
abbrev polygon_side_meets_V (s0 : PolygonSide) (t1 : PolygonSide) (r0 : Bool) : Prop := (∃ (holds1 : Bool), Ret Tryd.prog XS 57 [.agg [int s0.a.x, int s0.a.y, int s0.b.x, int s0.b.y], .agg [int t1.a.x, int t1.a.y]] (boo holds1) ∧ ((holds1 = true → r0 = true) ∧ (holds1 = false → (∃ (holds2 : Bool), Ret Tryd.prog XS 57 [.agg [int s0.a.x, int s0.a.y, int s0.b.x, int s0.b.y], .agg [int t1.b.x, int t1.b.y]] (boo holds2) ∧ ((holds2 = true → r0 = true) ∧ (holds2 = false → (∃ (holds3 : Bool), Ret Tryd.prog XS 57 [.agg [int t1.a.x, int t1.a.y, int t1.b.x, int t1.b.y], .agg [int s0.a.x, int s0.a.y]] (boo holds3) ∧ ((holds3 = true → r0 = true) ∧ (holds3 = false → (∃ (holds4 : Bool), Ret Tryd.prog XS 57 [.agg [int t1.a.x, int t1.a.y, int t1.b.x, int t1.b.y], .agg [int s0.b.x, int s0.b.y]] (boo holds4) ∧ ((holds4 = true → r0 = true) ∧ (holds4 = false → (∃ (divides5 : Bool), Ret Tryd.prog XS 63 [.agg [int s0.a.x, int s0.a.y, int s0.b.x, int s0.b.y], .agg [int t1.a.x, int t1.a.y], .agg [int t1.b.x, int t1.b.y]] (boo divides5) ∧ ((divides5 = true → (∃ (divides6 : Bool), Ret Tryd.prog XS 63 [.agg [int t1.a.x, int t1.a.y, int t1.b.x, int t1.b.y], .agg [int s0.a.x, int s0.a.y], .agg [int s0.b.x, int s0.b.y]] (boo divides6) ∧ r0 = divides6)) ∧ (divides5 = false → r0 = false)))))))))))))))
theorem polygon_side_meets_W (s0 : PolygonSide) (t1 : PolygonSide) (r0 : Bool) (h : polygon_side_meets_V s0 t1 r0) : Ret Tryd.prog XS 58 [.agg [int s0.a.x, int s0.a.y, int s0.b.x, int s0.b.y], .agg [int t1.a.x, int t1.a.y, int t1.b.x, int t1.b.y]] (boo r0) := by
  refine fn_rule Tryd.func58 (by kernel_rfl) (by kernel_rfl) (by kernel_rfl) (by kernel_rfl) ?_
  obtain ⟨holds1, c1, h⟩ := h
  have e_1 := fun {o : Orc} {q : List Prop} (r : At o q) => (d11 (ocs c1) r)
  rcases Bool.eq_false_or_eq_true holds1 with c2 | c2
  · have h := h.1 c2
    rw [h]
    exact sr (ids := []) (vs := [boo true]) (mem := []) (e_1 (d11 (abt c2) (d11 (abt c2) (d11 (abt c2) (d11 (abt c2) (d11 (abt c2) (d11 abtt (d11 abtt (d11 abtt (d11 abtt (d11 abtt (d11 abtt (d11 abtt (d11 abtt (d11 abtt (d11 abtt (d11 abtt (d11 abtt (d11 abtt (d11 abtt (d11 abtt (d11 abtt (d11 abtt (d11 abtt (d11 abtt az))))))))))))))))))))))))) (by kernel_rfl) (by kernel_rfl) (rts_sc rfl)
  · have h := h.2 c2
    obtain ⟨holds2, c3, h⟩ := h
    have e_2 := fun {o : Orc} {q : List Prop} (r : At o q) => (d11 (abf c2) (d11 (abf c2) (d11 (abf c2) (d11 (abf c2) (d11 (ocs c3) (d11 (abf c2) r))))))
    rcases Bool.eq_false_or_eq_true holds2 with c4 | c4
    · have h := h.1 c4
      rw [h]
      exact sr (ids := []) (vs := [boo true]) (mem := []) (e_1 (e_2 (d11 (abt c4) (d11 (abt c4) (d11 (abt c4) (d11 (abt c4) (d11 (abt c4) (d11 abtt (d11 abtt (d11 abtt (d11 abtt (d11 abtt (d11 abtt (d11 abtt (d11 abtt (d11 abtt (d11 abtt (d11 abtt (d11 abtt (d11 abtt (d11 abtt az))))))))))))))))))))) (by kernel_rfl) (by kernel_rfl) (rts_sc rfl)
    · have h := h.2 c4
      obtain ⟨holds3, c5, h⟩ := h
      have e_3 := fun {o : Orc} {q : List Prop} (r : At o q) => (d11 (abf c4) (d11 (abf c4) (d11 (abf c4) (d11 (abf c4) (d11 (ocs c5) (d11 (abf c4) r))))))
      rcases Bool.eq_false_or_eq_true holds3 with c6 | c6
      · have h := h.1 c6
        rw [h]
        exact sr (ids := []) (vs := [boo true]) (mem := []) (e_1 (e_2 (e_3 (d11 (abt c6) (d11 (abt c6) (d11 (abt c6) (d11 (abt c6) (d11 (abt c6) (d11 abtt (d11 abtt (d11 abtt (d11 abtt (d11 abtt (d11 abtt (d11 abtt (d11 abtt (d11 abtt az))))))))))))))))) (by kernel_rfl) (by kernel_rfl) (rts_sc rfl)
      · have h := h.2 c6
        obtain ⟨holds4, c7, h⟩ := h
        have e_4 := fun {o : Orc} {q : List Prop} (r : At o q) => (d11 (abf c6) (d11 (abf c6) (d11 (abf c6) (d11 (abf c6) (d11 (ocs c7) (d11 (abf c6) r))))))
        rcases Bool.eq_false_or_eq_true holds4 with c8 | c8
        · have h := h.1 c8
          rw [h]
          exact sr (ids := []) (vs := [boo true]) (mem := []) (e_1 (e_2 (e_3 (e_4 (d11 (abt c8) (d11 (abt c8) (d11 (abt c8) (d11 (abt c8) (d11 (abt c8) (d11 (abt c8) (d11 (abt c8) (d11 (abt c8) (d11 (abt c8) az))))))))))))) (by kernel_rfl) (by kernel_rfl) (rts_sc rfl)
        · have h := h.2 c8
          obtain ⟨divides5, c9, h⟩ := h
          have e_5 := fun {o : Orc} {q : List Prop} (r : At o q) => (d11 (abf c8) (d11 (abf c8) (d11 (abf c8) (d11 (abf c8) (d11 (abf c8) (d11 (abf c8) (d11 (ocs c9) (d11 (abf c8) r))))))))
          rcases Bool.eq_false_or_eq_true divides5 with c10 | c10
          · have h := h.1 c10
            obtain ⟨divides6, c11, h⟩ := h
            rw [h]
            exact sr (ids := []) (vs := [boo divides6]) (mem := []) (e_1 (e_2 (e_3 (e_4 (e_5 (d11 (abt c10) (d11 (abt c10) (d11 (abt c10) (d11 (abt c10) (d11 (abt c10) (d11 (abt c10) (d11 (ocs c11) (d11 (abf c8) (d11 (abt c10) (d11 (abf c8) az))))))))))))))) (by kernel_rfl) (by kernel_rfl) (rts_sc rfl)
          · have h := h.2 c10
            rw [h]
            exact sr (ids := []) (vs := [boo false]) (mem := []) (e_1 (e_2 (e_3 (e_4 (e_5 (d11 (abf c10) (d11 (abf c10) (d11 (abf c10) (d11 (abf c10) (d11 (abf c10) (d11 (abf c10) (d11 (abf c8) (d11 (abf c10) (d11 (abf c8) az)))))))))))))) (by kernel_rfl) (by kernel_rfl) (rts_sc rfl)

-- (polygon.side).divides
abbrev polygon_side_divides_V (s0 : PolygonSide) (p : Spot) (q : Spot) (r0 : Bool) : Prop := (∃ (turn1 : Int), Ret Tryd.prog XS 61 [.agg [int s0.a.x, int s0.a.y], .agg [int s0.b.x, int s0.b.y], .agg [int p.x, int p.y]] (int turn1) ∧ (∃ (turn2 : Int), Ret Tryd.prog XS 61 [.agg [int s0.a.x, int s0.a.y], .agg [int s0.b.x, int s0.b.y], .agg [int q.x, int q.y]] (int turn2) ∧ ((turn1 < 0 → ((turn2 > 0 → r0 = true) ∧ (¬ (turn2 > 0) → ((turn1 > 0 → r0 = (decide (turn2 < 0))) ∧ (¬ (turn1 > 0) → r0 = false))))) ∧ (¬ (turn1 < 0) → ((turn1 > 0 → r0 = (decide (turn2 < 0))) ∧ (¬ (turn1 > 0) → r0 = false))))))
theorem polygon_side_divides_W (s0 : PolygonSide) (p : Spot) (q : Spot) (r0 : Bool) (h : polygon_side_divides_V s0 p q r0) : Ret Tryd.prog XS 63 [.agg [int s0.a.x, int s0.a.y, int s0.b.x, int s0.b.y], .agg [int p.x, int p.y], .agg [int q.x, int q.y]] (boo r0) := by
  refine fn_rule Tryd.func63 (by kernel_rfl) (by kernel_rfl) (by kernel_rfl) (by kernel_rfl) ?_
  obtain ⟨turn1, c1, turn2, c2, h⟩ := h
  have e_1 := fun {o : Orc} {q : List Prop} (r : At o q) => (d11 (ocs c1) (d11 (ocs c2) r))
  by_cases c3 : turn1 < 0
  · have h := h.1 c3
    have g_2 := (abt (dec_t c3))
    have e_3 := fun {o : Orc} {q : List Prop} (r : At o q) => (d11 g_2 (d11 g_2 (d11 g_2 r)))
    by_cases c4 : turn2 > 0
    · have h := h.1 c4
      have g_4 := (abt (dec_t c4))
      rw [h]
      exact sr (ids := []) (vs := [boo true]) (mem := []) (e_1 (e_3 (d11 g_4 (d11 g_4 (d11 g_4 (d11 g_4 (d11 g_4 az))))))) (by kernel_rfl) (by kernel_rfl) (rts_sc rfl)
    · have h := h.2 c4
      have g_5 := (abf (dec_f c4))
      have e_6 := fun {o : Orc} {q : List Prop} (r : At o q) => (d11 g_5 (d11 g_5 (d11 g_5 r)))
      by_cases c5 : turn1 > 0
      · have h := h.1 c5
        have g_7 := (abt (dec_t c5))
        rw [h]
        exact sr (ids := []) (vs := [boo (decide (turn2 < 0))]) (mem := []) (e_1 (e_3 (e_6 (d11 g_7 (d11 g_7 (d11 g_5 (d11 g_7 (d11 g_5 az)))))))) (by kernel_rfl) (by kernel_rfl) (rts_sc rfl)
      · have h := h.2 c5
        have g_8 := (abf (dec_f c5))
        rw [h]
        exact sr (ids := []) (vs := [boo false]) (mem := []) (e_1 (e_3 (e_6 (d11 g_8 (d11 g_8 (d11 g_5 (d11 g_8 (d11 g_5 az)))))))) (by kernel_rfl) (by kernel_rfl) (rts_sc rfl)
  · have h := h.2 c3
    have g_9 := (abf (dec_f c3))
    have e_10 := fun {o : Orc} {q : List Prop} (r : At o q) => (d11 g_9 (d11 g_9 (d11 g_9 (d11 abff (d11 abff (d11 abff r))))))
    by_cases c4 : turn1 > 0
    · have h := h.1 c4
      have g_11 := (abt (dec_t c4))
      rw [h]
      exact sr (ids := []) (vs := [boo (decide (turn2 < 0))]) (mem := []) (e_1 (e_10 (d11 g_11 (d11 g_11 (d11 abff (d11 g_11 (d11 abff az))))))) (by kernel_rfl) (by kernel_rfl) (rts_sc rfl)
    · have h := h.2 c4
      have g_12 := (abf (dec_f c4))
      rw [h]
      exact sr (ids := []) (vs := [boo false]) (mem := []) (e_1 (e_10 (d11 g_12 (d11 g_12 (d11 abff (d11 g_12 (d11 abff az))))))) (by kernel_rfl) (by kernel_rfl) (rts_sc rfl)

-- (grade.times).move
abbrev grade_times_move_V (m : Int) (s1 : Spot) (r0 : Spot) : Prop := (InR (m * s1.x)) ∧ (InR (m * s1.y)) ∧ r0 = (⟨(m * s1.x), (m * s1.y)⟩ : Spot)
theorem grade_times_move_W (m : Int) (s1 : Spot) (r0 : Spot) (h : grade_times_move_V m s1 r0) : Ret Tryd.prog XS 34 [int m, .agg [int s1.x, int s1.y]] (.agg [int r0.x, int r0.y]) := by
  refine fn_rule Tryd.func34 (by kernel_rfl) (by kernel_rfl) (by kernel_rfl) (by kernel_rfl) ?_
  obtain ⟨c1, c2, h⟩ := h
  rw [h]
  exact sr (ids := []) (vs := [.agg [int (m * s1.x), int (m * s1.y)]]) (mem := []) (d11 (omul Tryd.prog 3 (wi64 c1)) (d11 (omul Tryd.prog 3 (wi64 c2)) az)) (by kernel_rfl) (by kernel_rfl) (rts_agg (rcs_sc (rcs_sc (rcs_nil rfl))))

-- grade.along
def grade_along_S0 (l : List Spot) (a : Spot) (b : Spot) (v19 : Int) (w8 : List Spot) : AS := ⟨[(4, .ptr 0 0 0), (5, .ptr 1 0 0), (7, int (((l.length : Nat) : Int) - 1)), (8, .own 2 0 w8.length), (17, .sl 2 (l.map cSpot)), (18, int ((l.length : Nat) : Int)), (19, int v19)], [(0, .box [int a.x, int a.y]), (1, .box [int b.x, int b.y]), (2, .row 2 (w8.map cSpot))], 3⟩
abbrev grade_along_V (l : List Spot) (a : Spot) (b : Spot) (r0 : List Spot) (I0 : Int → (List Spot) → Prop) (M0 : Int → (List Spot) → Nat) : Prop := (InR (((l.length : Nat) : Int) - 1)) ∧ (0 ≤ ((l.length : Nat) : Int)) ∧ (((l.length : Nat) : Int) * 16 ≤ 140737488355328) ∧ (((l.length : Nat) : Int) ≤ 9223372036854775807) ∧ I0 0 (List.replicate (((l.length : Nat) : Int) : Int).toNat (⟨0, 0⟩ : Spot))
abbrev grade_along_V0 (l : List Spot) (a : Spot) (b : Spot) (r0 : List Spot) (I0 : Int → (List Spot) → Prop) (M0 : Int → (List Spot) → Nat) (v19 : Int) (w8 : List Spot) : Prop := ((v19 < ((l.length : Nat) : Int) → (Idx v19 l.length) ∧ (InR ((((l.length : Nat) : Int) - 1) - v19)) ∧ (InR (((((l.length : Nat) : Int) - 1) - v19) * a.x)) ∧ (InR (v19 * b.x)) ∧ (InR ((((((l.length : Nat) : Int) - 1) - v19) * a.x) + (v19 * b.x))) ∧ (∃ (share1 : Int), Ret Tryd.prog XS 44 [int ((((((l.length : Nat) : Int) - 1) - v19) * a.x) + (v19 * b.x)), int (((l.length : Nat) : Int) - 1)] (int share1) ∧ (InR ((ai l v19).x + share1)) ∧ (InR (((((l.length : Nat) : Int) - 1) - v19) * a.y)) ∧ (InR (v19 * b.y)) ∧ (InR ((((((l.length : Nat) : Int) - 1) - v19) * a.y) + (v19 * b.y))) ∧ (∃ (share2 : Int), Ret Tryd.prog XS 44 [int ((((((l.length : Nat) : Int) - 1) - v19) * a.y) + (v19 * b.y)), int (((l.length : Nat) : Int) - 1)] (int share2) ∧ (InR ((ai l v19).y + share2)) ∧ (Idx v19 w8.length) ∧ (InR (v19 + 1)) ∧ I0 (v19 + 1) (w8.set (v19 : Int).toNat (⟨((ai l v19).x + share1), ((ai l v19).y + share2)⟩ : Spot)) ∧ M0 (v19 + 1) (w8.set (v19 : Int).toNat (⟨((ai l v19).x + share1), ((ai l v19).y + share2)⟩ : Spot)) < M0 v19 w8))) ∧ (¬ (v19 < ((l.length : Nat) : Int)) → r0 = w8))
theorem grade_along_W0 (l : List Spot) (a : Spot) (b : Spot) (r0 : List Spot) (I0 : Int → (List Spot) → Prop) (M0 : Int → (List Spot) → Nat) (h0 : ∀ (v19 : Int) (w8 : List Spot), I0 v19 w8 → grade_along_V0 l a b r0 I0 M0 v19 w8) : ∀ (x : Int × (List Spot)), I0 x.1 x.2 → loopQ Tryd.prog XS Tryd.f35 0 (.fr 2 (r0.map cSpot)) [] (grade_along_S0 l a b x.1 x.2) := by
  intro x0 hx0
  refine loop_rule (fun (x : Int × (List Spot)) => I0 x.1 x.2) (fun (x : Int × (List Spot)) => M0 x.1 x.2) (fun (x : Int × (List Spot)) => grade_along_S0 l a b x.1 x.2) x0 hx0 ?_
  rintro ⟨v19, w8⟩ hx
  have h := h0 v19 w8 hx
  clear hx hx0 x0
  by_cases c1 : v19 < ((l.length : Nat) : Int)
  · have h := h.1 c1
    obtain ⟨c2, c3, c4, c5, c6, share1, c7, c8, c9, c10, c11, share2, c12, c13, c14, c15, h⟩ := h
    have g_1 := (osub Tryd.prog 3 (wi64 c3))
    exact sb (ts := [4, 5, 7, 8, 17, 18, 19]) (ids := [0, 1, 2]) (d := 0) (s0 := ⟨[(4, .ptr 0 0 0), (5, .ptr 1 0 0), (7, int (((l.length : Nat) : Int) - 1)), (8, .own 2 0 w8.length), (17, .sl 2 (l.map cSpot)), (18, int ((l.length : Nat) : Int)), (19, int (v19 + 1))], [(0, .box [int a.x, int a.y]), (1, .box [int b.x, int b.y]), (2, .row 2 ((w8.set (v19 : Int).toNat (⟨((ai l v19).x + share1), ((ai l v19).y + share2)⟩ : Spot)).map cSpot))], 4⟩) (d11 (abt (dec_t c1)) (d11 (oidx cSpot c2) (d11 g_1 (d11 (omul Tryd.prog 3 (wi64 c4)) (d11 (omul Tryd.prog 3 (wi64 c5)) (d11 (oadd Tryd.prog 3 (wi64 c6)) (d11 (ocs c7) (d11 (oadd Tryd.prog 3 (wi64 c8)) (d11 g_1 (d11 (omul Tryd.prog 3 (wi64 c9)) (d11 (omul Tryd.prog 3 (wi64 c10)) (d11 (oadd Tryd.prog 3 (wi64 c11)) (d11 (ocs c12) (d11 (oadd Tryd.prog 3 (wi64 c13)) (d01 (oown cSpot (n := w8.length) rfl c14) (d21 (oset cSpot (⟨((ai l v19).x + share1), ((ai l v19).y + share2)⟩ : Spot) c14) (d11 (oadd Tryd.prog 3 (wi64 c15)) az))))))))))))))))) (by kernel_rfl) (by kernel_rfl) rfl ((v19 + 1), (w8.set (v19 : Int).toNat (⟨((ai l v19).x + share1), ((ai l v19).y + share2)⟩ : Spot))) h.1 h.2 (Weak.anew [(0, some 0), (1, some 1), (2, some 2)] (by rfl) (wt_cons rfl (wk_ptr rfl) (wt_cons rfl (wk_ptr rfl) (wt_cons rfl wk_sc (wt_cons rfl (wk_own rfl (by simp)) (wt_cons rfl wk_sl (wt_cons rfl wk_sc (wt_cons rfl wk_sc wt_nil))))))) (wm_box rfl rfl (wl_cons wk_sc (wl_cons wk_sc wl_nil)) (wm_box rfl rfl (wl_cons wk_sc (wl_cons wk_sc wl_nil)) (wm_row rfl rfl wm_nil))))
  · have h := h.2 c1
    rw [h]
    exact sr (ids := [2]) (vs := [.own 2 0 w8.length]) (mem := [(2, .row 2 (w8.map cSpot))]) (d11 (abf (dec_f c1)) az) (by kernel_rfl) (by kernel_rfl) (rts_own rfl rfl rfl rfl)
theorem grade_along_W (l : List Spot) (a : Spot) (b : Spot) (r0 : List Spot) (I0 : Int → (List Spot) → Prop) (M0 : Int → (List Spot) → Nat) (h : grade_along_V l a b r0 I0 M0) (h0 : ∀ (v19 : Int) (w8 : List Spot), I0 v19 w8 → grade_along_V0 l a b r0 I0 M0 v19 w8) : Ret Tryd.prog XS 35 [.sl 2 (l.map cSpot), .agg [int a.x, int a.y], .agg [int b.x, int b.y]] (.fr 2 (r0.map cSpot)) := by
  refine fn_rule Tryd.func35 (by kernel_rfl) (by kernel_rfl) (by kernel_rfl) (by kernel_rfl) ?_
  obtain ⟨c1, c2, c3, c4, h⟩ := h
  have g_2 := (olen cSpot Tryd.prog 29 2 l (by kernel_rfl))
  exact sl (ts := [4, 5, 7, 8, 17, 18, 19]) (ids := [0, 1, 2]) (d := 0) (s0 := ⟨[(4, .ptr 0 0 0), (5, .ptr 1 0 0), (7, int (((l.length : Nat) : Int) - 1)), (8, .own 2 0 ((List.replicate (((l.length : Nat) : Int) : Int).toNat (⟨0, 0⟩ : Spot)).length)), (17, .sl 2 (l.map cSpot)), (18, int ((l.length : Nat) : Int)), (19, int 0)], [(0, .box [int a.x, int a.y]), (1, .box [int b.x, int b.y]), (2, .row 2 ((List.replicate (((l.length : Nat) : Int) : Int).toNat (⟨0, 0⟩ : Spot)).map cSpot))], 3⟩) (d11 g_2 (d11 (osub Tryd.prog 3 (wi64 c1)) (d11 g_2 (d11 (omake cSpot (v := (⟨0, 0⟩ : Spot)) (z := [int 0, int 0]) (l := ((l.length : Nat) : Int)) (b := 16) rfl c2 c3 c4) (d11 g_2 az))))) (by kernel_rfl) (by kernel_rfl) (Weak.anew [(0, some 0), (1, some 1), (2, some 2)] (by rfl) (wt_cons rfl (wk_ptr rfl) (wt_cons rfl (wk_ptr rfl) (wt_cons rfl wk_sc (wt_cons rfl (wk_own rfl rfl) (wt_cons rfl wk_sl (wt_cons rfl wk_sc (wt_cons rfl wk_sc wt_nil))))))) (wm_box rfl rfl (wl_cons wk_sc (wl_cons wk_sc wl_nil)) (wm_box rfl rfl (wl_cons wk_sc (wl_cons wk_sc wl_nil)) (wm_row rfl rfl wm_nil)))) (grade_along_W0 l a b r0 I0 M0 h0 (0, (List.replicate (((l.length : Nat) : Int) : Int).toNat (⟨0, 0⟩ : Spot))) h)

-- grade.share
abbrev grade_share_V (n : Int) (s1 : Int) (r0 : Int) : Prop := ((n < 0 → (InR (-n)) ∧ (∃ (share1 : Int), Ret Tryd.prog XS 44 [int (-n), int s1] (int share1) ∧ (InR (-share1)) ∧ r0 = (-share1))) ∧ (¬ (n < 0) → (InR (2 * n)) ∧ (InR ((2 * n) + s1)) ∧ (InR (2 * s1)) ∧ ((2 * s1) ≠ 0) ∧ (InR (((2 * n) + s1).tdiv (2 * s1))) ∧ r0 = (((2 * n) + s1).tdiv (2 * s1))))
theorem grade_share_W (n : Int) (s1 : Int) (r0 : Int) (h : grade_share_V n s1 r0) : Ret Tryd.prog XS 44 [int n, int s1] (int r0) := by
  refine fn_rule Tryd.func44 (by kernel_rfl) (by kernel_rfl) (by kernel_rfl) (by kernel_rfl) ?_
  by_cases c1 : n < 0
  · have h := h.1 c1
    obtain ⟨c2, share1, c3, c4, h⟩ := h
    rw [h]
    exact sr (ids := []) (vs := [int (-share1)]) (mem := []) (d11 (abt (dec_t c1)) (d11 (oneg (wi64 c2)) (d11 (ocs c3) (d11 (oneg (wi64 c4)) az)))) (by kernel_rfl) (by kernel_rfl) (rts_sc rfl)
  · have h := h.2 c1
    obtain ⟨c2, c3, c4, c5, c6, h⟩ := h
    rw [h]
    exact sr (ids := []) (vs := [int (((2 * n) + s1).tdiv (2 * s1))]) (mem := []) (d11 (abf (dec_f c1)) (d11 (omul Tryd.prog 3 (wi64 c2)) (d11 (oadd Tryd.prog 3 (wi64 c3)) (d11 (omul Tryd.prog 3 (wi64 c4)) (d11 (oquo Tryd.prog 3 c5 (wi64 c6)) az))))) (by kernel_rfl) (by kernel_rfl) (rts_sc rfl)

-- polyline.Length
def polyline_Length_S0 (l : List Spot) (n5 : Int) (i6 : Int) : AS := ⟨[(0, .sl 2 (l.map cSpot)), (5, int n5), (6, int i6)], [], 0⟩
abbrev polyline_Length_V (l : List Spot) (r0 : Int) (r1 : Int) (I0 : Int → Int → Prop) (M0 : Int → Int → Nat) : Prop := (∃ (check1 : Int), Ret Tryd.prog XS 36 [.sl 2 (l.map cSpot)] (int check1) ∧ ((check1 = 0 → I0 0 1) ∧ (¬ (check1 = 0) → r0 = 0 ∧ r1 = check1)))
abbrev polyline_Length_V0 (l : List Spot) (r0 : Int) (r1 : Int) (I0 : Int → Int → Prop) (M0 : Int → Int → Nat) (n5 : Int) (i6 : Int) : Prop := ((i6 < ((l.length : Nat) : Int) → (InR (i6 - 1)) ∧ (Idx (i6 - 1) l.length) ∧ (Idx i6 l.length) ∧ (∃ (segment1 : Int), Ret Tryd.prog XS 37 [.agg [int ((ai l (i6 - 1)).x), int ((ai l (i6 - 1)).y)], .agg [int ((ai l i6).x), int ((ai l i6).y)]] (int segment1) ∧ (InR (n5 + segment1)) ∧ (InR (i6 + 1)) ∧ I0 (n5 + segment1) (i6 + 1) ∧ M0 (n5 + segment1) (i6 + 1) < M0 n5 i6)) ∧ (¬ (i6 < ((l.length : Nat) : Int)) → r0 = n5 ∧ r1 = 0))
theorem polyline_Length_W0 (l : List Spot) (r0 : Int) (r1 : Int) (I0 : Int → Int → Prop) (M0 : Int → Int → Nat) (h0 : ∀ (n5 : Int) (i6 : Int), I0 n5 i6 → polyline_Length_V0 l r0 r1 I0 M0 n5 i6) : ∀ (x : Int × Int), I0 x.1 x.2 → loopQ Tryd.prog XS Tryd.f22 0 (.tup [int r0, int r1]) [] (polyline_Length_S0 l x.1 x.2) := by
  intro x0 hx0
  refine loop_rule (fun (x : Int × Int) => I0 x.1 x.2) (fun (x : Int × Int) => M0 x.1 x.2) (fun (x : Int × Int) => polyline_Length_S0 l x.1 x.2) x0 hx0 ?_
  rintro ⟨n5, i6⟩ hx
  have h := h0 n5 i6 hx
  clear hx hx0 x0
  have e_1 := fun {o : Orc} {q : List Prop} (r : At o q) => (d11 (olen cSpot Tryd.prog 29 2 l (by kernel_rfl)) r)
  by_cases c1 : i6 < ((l.length : Nat) : Int)
  · have h := h.1 c1
    obtain ⟨c2, c3, c4, segment1, c5, c6, c7, h⟩ := h
    exact sb (ts := [0, 5, 6]) (ids := []) (d := 0) (s0 := ⟨[(0, .sl 2 (l.map cSpot)), (5, int (n5 + segment1)), (6, int (i6 + 1))], [], 0⟩) (e_1 (d11 (abt (dec_t c1)) (d11 (osub Tryd.prog 3 (wi64 c2)) (d11 (oidx cSpot c3) (d11 (oidx cSpot c4) (d11 (ocs c5) (d11 (oadd Tryd.prog 3 (wi64 c6)) (d11 (oadd Tryd.prog 3 (wi64 c7)) az)))))))) (by kernel_rfl) (by kernel_rfl) rfl ((n5 + segment1), (i6 + 1)) h.1 h.2 (Weak.anew [] (by rfl) (wt_cons rfl wk_sl (wt_cons rfl wk_sc (wt_cons rfl wk_sc wt_nil))) wm_nil)
  · have h := h.2 c1
    rw [h.1, h.2]
    exact sr (ids := []) (vs := [int n5, int 0]) (mem := []) (e_1 (d11 (abf (dec_f c1)) az)) (by kernel_rfl) (by kernel_rfl) (rts_sc (rts_sc rfl))
theorem polyline_Length_W (l : List Spot) (r0 : Int) (r1 : Int) (I0 : Int → Int → Prop) (M0 : Int → Int → Nat) (h : polyline_Length_V l r0 r1 I0 M0) (h0 : ∀ (n5 : Int) (i6 : Int), I0 n5 i6 → polyline_Length_V0 l r0 r1 I0 M0 n5 i6) : Ret Tryd.prog XS 22 [.sl 2 (l.map cSpot)] (.tup [int r0, int r1]) := by
  refine fn_rule Tryd.func22 (by kernel_rfl) (by kernel_rfl) (by kernel_rfl) (by kernel_rfl) ?_
  obtain ⟨check1, c1, h⟩ := h
  have e_2 := fun {o : Orc} {q : List Prop} (r : At o q) => (d11 (ocs c1) r)
  by_cases c2 : check1 = 0
  · have h := h.1 c2
    exact sl (ts := [0, 5, 6]) (ids := []) (d := 0) (s0 := ⟨[(0, .sl 2 (l.map cSpot)), (5, int 0), (6, int 1)], [], 0⟩) (e_2 (d11 (abf (bne_f c2)) az)) (by kernel_rfl) (by kernel_rfl) (Weak.anew [] (by rfl) (wt_cons rfl wk_sl (wt_cons rfl wk_sc (wt_cons rfl wk_sc wt_nil))) wm_nil) (polyline_Length_W0 l r0 r1 I0 M0 h0 (0, 1) h)
  · have h := h.2 c2
    rw [h.1, h.2]
    exact sr (ids := []) (vs := [int 0, int check1]) (mem := []) (e_2 (d11 (abt (bne_t c2)) az)) (by kernel_rfl) (by kernel_rfl) (rts_sc (rts_sc rfl))

-- polyline.segment
abbrev polyline_segment_V (p : Spot) (q : Spot) (r0 : Int) : Prop := (InR (q.x - p.x)) ∧ (InR (q.y - p.y)) ∧ (InR ((q.x - p.x) * (q.x - p.x))) ∧ (InR ((q.y - p.y) * (q.y - p.y))) ∧ (InR (((q.x - p.x) * (q.x - p.x)) + ((q.y - p.y) * (q.y - p.y)))) ∧ (InR (1000000 * (((q.x - p.x) * (q.x - p.x)) + ((q.y - p.y) * (q.y - p.y))))) ∧ (∃ (root1 : Int), Ret Tryd.prog XS 46 [int (1000000 * (((q.x - p.x) * (q.x - p.x)) + ((q.y - p.y) * (q.y - p.y))))] (int root1) ∧ r0 = root1)
theorem polyline_segment_W (p : Spot) (q : Spot) (r0 : Int) (h : polyline_segment_V p q r0) : Ret Tryd.prog XS 37 [.agg [int p.x, int p.y], .agg [int q.x, int q.y]] (int r0) := by
  refine fn_rule Tryd.func37 (by kernel_rfl) (by kernel_rfl) (by kernel_rfl) (by kernel_rfl) ?_
  obtain ⟨c1, c2, c3, c4, c5, c6, root1, c7, h⟩ := h
  rw [h]
  exact sr (ids := []) (vs := [int root1]) (mem := []) (d11 (osub Tryd.prog 3 (wi64 c1)) (d11 (osub Tryd.prog 3 (wi64 c2)) (d11 (omul Tryd.prog 3 (wi64 c3)) (d11 (omul Tryd.prog 3 (wi64 c4)) (d11 (oadd Tryd.prog 3 (wi64 c5)) (d11 (omul Tryd.prog 3 (wi64 c6)) (d11 (ocs c7) az))))))) (by kernel_rfl) (by kernel_rfl) (rts_sc rfl)

-- seam.Unfit
def seam_Unfit_S0 (s0 : Style) (size : Int) (out6 : List Int) (v24 : Int) : AS := ⟨[(1, int size), (2, .ptr 0 0 0), (6, .own 1 0 out6.length), (22, .sl 6 (s0.seams.map cSeam)), (23, int ((s0.seams.length : Nat) : Int)), (24, int v24)], [(1, .row 1 (out6.map cI)), (0, .box [str s0.name, .sl 1 (s0.sizes.map cS), .sl 1 (s0.multiples.map cI), .sl 7 (s0.pieces.map cPiece), .sl 3 (s0.uses.map cUseOf), .sl 6 (s0.seams.map cSeam), .sl 5 (s0.ops.map cOperation)])], 2⟩
abbrev seam_Unfit_V (s0 : Style) (size : Int) (r0 : List Int) (r1 : Int) (I0 : (List Int) → Int → Prop) (M0 : (List Int) → Int → Nat) : Prop := ((size < 0 → r0 = ([] : List Int) ∧ r1 = 3) ∧ (¬ (size < 0) → ((size ≥ ((s0.multiples.length : Nat) : Int) → r0 = ([] : List Int) ∧ r1 = 3) ∧ (¬ (size ≥ ((s0.multiples.length : Nat) : Int)) → I0 ([] : List Int) 0))))
abbrev seam_Unfit_V0 (s0 : Style) (size : Int) (r0 : List Int) (r1 : Int) (I0 : (List Int) → Int → Prop) (M0 : (List Int) → Int → Nat) (out6 : List Int) (v24 : Int) : Prop := ((v24 < ((s0.seams.length : Nat) : Int) → (Idx v24 s0.seams.length) ∧ (∃ (lengths1a : Int) (lengths1b : Int) (lengths1c : Int), Ret Tryd.prog XS 16 [.agg [str s0.name, .sl 1 (s0.sizes.map cS), .sl 1 (s0.multiples.map cI), .sl 7 (s0.pieces.map cPiece), .sl 3 (s0.uses.map cUseOf), .sl 6 (s0.seams.map cSeam), .sl 5 (s0.ops.map cOperation)], int size, int v24] (.tup [int lengths1a, int lengths1b, int lengths1c]) ∧ ((lengths1c = 0 → (InR (lengths1a - lengths1b)) ∧ (InR (lengths1b - lengths1a)) ∧ (((max (lengths1a - lengths1b) (lengths1b - lengths1a)) > (ai s0.seams v24).ease → (Cap 8 (out6 ++ ([v24] : List Int)).length) ∧ (InR (v24 + 1)) ∧ I0 (out6 ++ ([v24] : List Int)) (v24 + 1) ∧ M0 (out6 ++ ([v24] : List Int)) (v24 + 1) < M0 out6 v24) ∧ (¬ ((max (lengths1a - lengths1b) (lengths1b - lengths1a)) > (ai s0.seams v24).ease) → (InR (v24 + 1)) ∧ I0 out6 (v24 + 1) ∧ M0 out6 (v24 + 1) < M0 out6 v24))) ∧ (¬ (lengths1c = 0) → r0 = ([] : List Int) ∧ r1 = lengths1c)))) ∧ (¬ (v24 < ((s0.seams.length : Nat) : Int)) → r0 = out6 ∧ r1 = 0))
theorem seam_Unfit_W0 (s0 : Style) (size : Int) (r0 : List Int) (r1 : Int) (I0 : (List Int) → Int → Prop) (M0 : (List Int) → Int → Nat) (h0 : ∀ (out6 : List Int) (v24 : Int), I0 out6 v24 → seam_Unfit_V0 s0 size r0 r1 I0 M0 out6 v24) : ∀ (x : (List Int) × Int), I0 x.1 x.2 → loopQ Tryd.prog XS Tryd.f17 0 (.tup [.fr 1 (r0.map cI), int r1]) [] (seam_Unfit_S0 s0 size x.1 x.2) := by
  intro x0 hx0
  refine loop_rule (fun (x : (List Int) × Int) => I0 x.1 x.2) (fun (x : (List Int) × Int) => M0 x.1 x.2) (fun (x : (List Int) × Int) => seam_Unfit_S0 s0 size x.1 x.2) x0 hx0 ?_
  rintro ⟨out6, v24⟩ hx
  have h := h0 out6 v24 hx
  clear hx hx0 x0
  by_cases c1 : v24 < ((s0.seams.length : Nat) : Int)
  · have h := h.1 c1
    obtain ⟨c2, lengths1a, lengths1b, lengths1c, c3, h⟩ := h
    have g_1 := (abt (dec_t c1))
    have e_2 := fun {o : Orc} {q : List Prop} (r : At o q) => (d11 g_1 (d11 (oidx cSeam c2) (d11 (ocs c3) r)))
    by_cases c4 : lengths1c = 0
    · have h := h.1 c4
      obtain ⟨c5, c6, h⟩ := h
      have e_3 := fun {o : Orc} {q : List Prop} (r : At o q) => (d11 (abf (bne_f c4)) (d11 (osub Tryd.prog 3 (wi64 c5)) (d11 (osub Tryd.prog 3 (wi64 c6)) (d11 (omax .i64 (lengths1a - lengths1b) (lengths1b - lengths1a)) r))))
      by_cases c7 : (max (lengths1a - lengths1b) (lengths1b - lengths1a)) > (ai s0.seams v24).ease
      · have h := h.1 c7
        obtain ⟨c8, c9, h⟩ := h
        exact sb (ts := [1, 2, 6, 22, 23, 24]) (ids := [4, 0]) (d := 0) (s0 := ⟨[(1, int size), (2, .ptr 0 0 0), (6, .own 4 0 ((out6 ++ ([v24] : List Int)).length)), (22, .sl 6 (s0.seams.map cSeam)), (23, int ((s0.seams.length : Nat) : Int)), (24, int (v24 + 1))], [(4, .row 1 ((out6 ++ ([v24] : List Int)).map cI)), (0, .box [str s0.name, .sl 1 (s0.sizes.map cS), .sl 1 (s0.multiples.map cI), .sl 7 (s0.pieces.map cPiece), .sl 3 (s0.uses.map cUseOf), .sl 6 (s0.seams.map cSeam), .sl 5 (s0.ops.map cOperation)])], 5⟩) (e_2 (e_3 (d11 (abt (dec_t c7)) (d12 (oappo cI (n := out6.length) (m := ([v24] : List Int).length) rfl rfl c8) (d11 (oadd Tryd.prog 3 (wi64 c9)) az))))) (by kernel_rfl) (by kernel_rfl) rfl ((out6 ++ ([v24] : List Int)), (v24 + 1)) h.1 h.2 (Weak.anew [(1, some 4), (0, some 0)] (by rfl) (wt_cons rfl wk_sc (wt_cons rfl (wk_ptr rfl) (wt_cons rfl (wk_own rfl rfl) (wt_cons rfl wk_sl (wt_cons rfl wk_sc (wt_cons rfl wk_sc wt_nil)))))) (wm_row rfl rfl (wm_box rfl rfl (wl_cons wk_sc (wl_cons wk_sl (wl_cons wk_sl (wl_cons wk_sl (wl_cons wk_sl (wl_cons wk_sl (wl_cons wk_sl wl_nil))))))) wm_nil)))
      · have h := h.2 c7
        obtain ⟨c8, h⟩ := h
        exact sb (ts := [1, 2, 6, 22, 23, 24]) (ids := [1, 0]) (d := 0) (s0 := ⟨[(1, int size), (2, .ptr 0 0 0), (6, .own 1 0 out6.length), (22, .sl 6 (s0.seams.map cSeam)), (23, int ((s0.seams.length : Nat) : Int)), (24, int (v24 + 1))], [(1, .row 1 (out6.map cI)), (0, .box [str s0.name, .sl 1 (s0.sizes.map cS), .sl 1 (s0.multiples.map cI), .sl 7 (s0.pieces.map cPiece), .sl 3 (s0.uses.map cUseOf), .sl 6 (s0.seams.map cSeam), .sl 5 (s0.ops.map cOperation)])], 3⟩) (e_2 (e_3 (d11 (abf (dec_f c7)) (d11 (oadd Tryd.prog 3 (wi64 c8)) az)))) (by kernel_rfl) (by kernel_rfl) rfl (out6, (v24 + 1)) h.1 h.2 (Weak.anew [(1, some 1), (0, some 0)] (by rfl) (wt_cons rfl wk_sc (wt_cons rfl (wk_ptr rfl) (wt_cons rfl (wk_own rfl rfl) (wt_cons rfl wk_sl (wt_cons rfl wk_sc (wt_cons rfl wk_sc wt_nil)))))) (wm_row rfl rfl (wm_box rfl rfl (wl_cons wk_sc (wl_cons wk_sl (wl_cons wk_sl (wl_cons wk_sl (wl_cons wk_sl (wl_cons wk_sl (wl_cons wk_sl wl_nil))))))) wm_nil)))
    · have h := h.2 c4
      rw [h.1, h.2]
      exact sr (ids := []) (vs := [.nil, int lengths1c]) (mem := []) (e_2 (d11 (abt (bne_t c4)) az)) (by kernel_rfl) (by kernel_rfl) (rts_nilfr (rts_sc rfl))
  · have h := h.2 c1
    have g_4 := (abf (dec_f c1))
    rw [h.1, h.2]
    exact sr (ids := [1]) (vs := [.own 1 0 out6.length, int 0]) (mem := [(1, .row 1 (out6.map cI))]) (d11 g_4 az) (by kernel_rfl) (by kernel_rfl) (rts_own rfl rfl rfl (rts_sc rfl))
theorem seam_Unfit_W (s0 : Style) (size : Int) (r0 : List Int) (r1 : Int) (I0 : (List Int) → Int → Prop) (M0 : (List Int) → Int → Nat) (h : seam_Unfit_V s0 size r0 r1 I0 M0) (h0 : ∀ (out6 : List Int) (v24 : Int), I0 out6 v24 → seam_Unfit_V0 s0 size r0 r1 I0 M0 out6 v24) : Ret Tryd.prog XS 17 [.agg [str s0.name, .sl 1 (s0.sizes.map cS), .sl 1 (s0.multiples.map cI), .sl 7 (s0.pieces.map cPiece), .sl 3 (s0.uses.map cUseOf), .sl 6 (s0.seams.map cSeam), .sl 5 (s0.ops.map cOperation)], int size] (.tup [.fr 1 (r0.map cI), int r1]) := by
  refine fn_rule Tryd.func17 (by kernel_rfl) (by kernel_rfl) (by kernel_rfl) (by kernel_rfl) ?_
  by_cases c1 : size < 0
  · have h := h.1 c1
    have g_5 := (abt (dec_t c1))
    rw [h.1, h.2]
    exact sr (ids := []) (vs := [.nil, int 3]) (mem := []) (d11 g_5 (d11 g_5 (d11 g_5 (d11 g_5 (d11 g_5 (d11 g_5 (d11 abtt az))))))) (by kernel_rfl) (by kernel_rfl) (rts_nilfr (rts_sc rfl))
  · have h := h.2 c1
    have g_6 := (abf (dec_f c1))
    have e_7 := fun {o : Orc} {q : List Prop} (r : At o q) => (d11 g_6 (d11 g_6 (d11 g_6 (d11 g_6 (d11 (olen cI Tryd.prog 40 1 s0.multiples (by kernel_rfl)) (d11 g_6 (d11 g_6 r)))))))
    by_cases c2 : size ≥ ((s0.multiples.length : Nat) : Int)
    · have h := h.1 c2
      rw [h.1, h.2]
      exact sr (ids := []) (vs := [.nil, int 3]) (mem := []) (e_7 (d11 (abt (dec_t c2)) az)) (by kernel_rfl) (by kernel_rfl) (rts_nilfr (rts_sc rfl))
    · have h := h.2 c2
      exact sl (ts := [1, 2, 6, 22, 23, 24]) (ids := [0]) (d := 0) (s0 := ⟨[(1, int size), (2, .ptr 0 0 0), (6, .nil), (22, .sl 6 (s0.seams.map cSeam)), (23, int ((s0.seams.length : Nat) : Int)), (24, int 0)], [(0, .box [str s0.name, .sl 1 (s0.sizes.map cS), .sl 1 (s0.multiples.map cI), .sl 7 (s0.pieces.map cPiece), .sl 3 (s0.uses.map cUseOf), .sl 6 (s0.seams.map cSeam), .sl 5 (s0.ops.map cOperation)])], 1⟩) (e_7 (d11 (abf (dec_f c2)) (d11 (olen cSeam Tryd.prog 43 6 s0.seams (by kernel_rfl)) az))) (by kernel_rfl) (by kernel_rfl) (Weak.anew [(1, none), (0, some 0)] (by rfl) (wt_cons rfl wk_sc (wt_cons rfl (wk_ptr rfl) (wt_cons rfl (wk_nilown rfl) (wt_cons rfl wk_sl (wt_cons rfl wk_sc (wt_cons rfl wk_sc wt_nil)))))) (wm_none rfl (wm_box rfl rfl (wl_cons wk_sc (wl_cons wk_sl (wl_cons wk_sl (wl_cons wk_sl (wl_cons wk_sl (wl_cons wk_sl (wl_cons wk_sl wl_nil))))))) wm_nil))) (seam_Unfit_W0 s0 size r0 r1 I0 M0 h0 (([] : List Int), 0) h)

end Go.Ab
end

section
namespace Go.Ab
open Go.Proofs
set_option maxRecDepth 1000000
set_option linter.unusedVariables false
attribute [local irreducible] todoQ
-- garmentref22.image
-- garmentref12.Apply
-- garmentref12.Norm
-- garmentlaw22.light
def garmentlaw22_light_S0 (s0 : Style) (i3 : Int) : AS := ⟨[(1, .ptr 0 0 0), (3, int i3)], [(0, .box [str s0.name, .sl 1 (s0.sizes.map cS), .sl 1 (s0.multiples.map cI), .sl 7 (s0.pieces.map cPiece), .sl 3 (s0.uses.map cUseOf), .sl 6 (s0.seams.map cSeam), .sl 5 (s0.ops.map cOperation)])], 1⟩
abbrev garmentlaw22_light_V (s0 : Style) (r0 : Bool) (I0 : Int → Prop) (M0 : Int → Nat) : Prop := ((((s0.pieces.length : Nat) : Int) > 14 → r0 = false) ∧ (¬ (((s0.pieces.length : Nat) : Int) > 14) → ((((s0.seams.length : Nat) : Int) > 30 → r0 = false) ∧ (¬ (((s0.seams.length : Nat) : Int) > 30) → I0 0))))
abbrev garmentlaw22_light_V0 (s0 : Style) (r0 : Bool) (I0 : Int → Prop) (M0 : Int → Nat) (i3 : Int) : Prop := ((i3 < ((s0.pieces.length : Nat) : Int) → (Idx i3 s0.pieces.length) ∧ (∃ (light1 : Bool), Ret Tryd.prog XS 19 [.agg [str ((ai s0.pieces i3).name), .sl 2 (((ai s0.pieces i3).edges).map cEdge), int ((ai s0.pieces i3).grain), .sl 2 (((ai s0.pieces i3).notches).map cNotch), .sl 2 (((ai s0.pieces i3).corners).map cSpot), .sl 1 (((ai s0.pieces i3).widths).map cI), boo ((ai s0.pieces i3).match_)], int 80] (boo light1) ∧ ((light1 = true → (InR (i3 + 1)) ∧ I0 (i3 + 1) ∧ M0 (i3 + 1) < M0 i3) ∧ (light1 = false → r0 = false)))) ∧ (¬ (i3 < ((s0.pieces.length : Nat) : Int)) → r0 = true))
theorem garmentlaw22_light_W0 (s0 : Style) (r0 : Bool) (I0 : Int → Prop) (M0 : Int → Nat) (h0 : ∀ (i3 : Int), I0 i3 → garmentlaw22_light_V0 s0 r0 I0 M0 i3) : ∀ (x : Int), I0 x → loopQ Tryd.prog XS Tryd.f15 0 (boo r0) [] (garmentlaw22_light_S0 s0 x) := by
  intro x0 hx0
  refine loop_rule (fun (x : Int) => I0 x) (fun (x : Int) => M0 x) (fun (x : Int) => garmentlaw22_light_S0 s0 x) x0 hx0 ?_
  intro i3 hx
  have h := h0 i3 hx
  clear hx hx0 x0
  have g_1 := (olen cPiece Tryd.prog 41 7 s0.pieces (by kernel_rfl))
  by_cases c1 : i3 < ((s0.pieces.length : Nat) : Int)
  · have h := h.1 c1
    obtain ⟨c2, light1, c3, h⟩ := h
    have g_2 := (abt (dec_t c1))
    have e_3 := fun {o : Orc} {q : List Prop} (r : At o q) => (d11 g_2 (d11 (oidx cPiece c2) (d11 (ocs c3) r)))
    rcases Bool.eq_false_or_eq_true light1 with c4 | c4
    · have h := h.1 c4
      obtain ⟨c5, h⟩ := h
      exact sb (ts := [1, 3]) (ids := [0]) (d := 0) (s0 := ⟨[(1, .ptr 0 0 0), (3, int (i3 + 1))], [(0, .box [str s0.name, .sl 1 (s0.sizes.map cS), .sl 1 (s0.multiples.map cI), .sl 7 (s0.pieces.map cPiece), .sl 3 (s0.uses.map cUseOf), .sl 6 (s0.seams.map cSeam), .sl 5 (s0.ops.map cOperation)])], 1⟩) (d11 g_1 (e_3 (d11 (abf (not_f c4)) (d11 (oadd Tryd.prog 3 (wi64 c5)) az)))) (by kernel_rfl) (by kernel_rfl) rfl (i3 + 1) h.1 h.2 (Weak.anew [(0, some 0)] (by rfl) (wt_cons rfl (wk_ptr rfl) (wt_cons rfl wk_sc wt_nil)) (wm_box rfl rfl (wl_cons wk_sc (wl_cons wk_sl (wl_cons wk_sl (wl_cons wk_sl (wl_cons wk_sl (wl_cons wk_sl (wl_cons wk_sl wl_nil))))))) wm_nil))
    · have h := h.2 c4
      rw [h]
      exact sr (ids := []) (vs := [boo false]) (mem := []) (d11 g_1 (e_3 (d11 (abt (not_t c4)) az))) (by kernel_rfl) (by kernel_rfl) (rts_sc rfl)
  · have h := h.2 c1
    have g_4 := (abf (dec_f c1))
    rw [h]
    exact sr (ids := []) (vs := [boo true]) (mem := []) (d11 g_1 (d11 g_4 az)) (by kernel_rfl) (by kernel_rfl) (rts_sc rfl)
theorem garmentlaw22_light_W (s0 : Style) (r0 : Bool) (I0 : Int → Prop) (M0 : Int → Nat) (h : garmentlaw22_light_V s0 r0 I0 M0) (h0 : ∀ (i3 : Int), I0 i3 → garmentlaw22_light_V0 s0 r0 I0 M0 i3) : Ret Tryd.prog XS 15 [.agg [str s0.name, .sl 1 (s0.sizes.map cS), .sl 1 (s0.multiples.map cI), .sl 7 (s0.pieces.map cPiece), .sl 3 (s0.uses.map cUseOf), .sl 6 (s0.seams.map cSeam), .sl 5 (s0.ops.map cOperation)]] (boo r0) := by
  refine fn_rule Tryd.func15 (by kernel_rfl) (by kernel_rfl) (by kernel_rfl) (by kernel_rfl) ?_
  have g_5 := (olen cPiece Tryd.prog 41 7 s0.pieces (by kernel_rfl))
  by_cases c1 : ((s0.pieces.length : Nat) : Int) > 14
  · have h := h.1 c1
    have g_6 := (abt (dec_t c1))
    rw [h]
    exact sr (ids := []) (vs := [boo false]) (mem := []) (d11 g_5 (d11 g_6 (d11 g_6 (d11 g_6 (d11 g_6 (d11 g_6 (d11 abtt az))))))) (by kernel_rfl) (by kernel_rfl) (rts_sc rfl)
  · have h := h.2 c1
    have g_7 := (abf (dec_f c1))
    have e_8 := fun {o : Orc} {q : List Prop} (r : At o q) => (d11 g_7 (d11 g_7 (d11 g_7 (d11 (olen cSeam Tryd.prog 43 6 s0.seams (by kernel_rfl)) (d11 g_7 (d11 g_7 r))))))
    by_cases c2 : ((s0.seams.length : Nat) : Int) > 30
    · have h := h.1 c2
      rw [h]
      exact sr (ids := []) (vs := [boo false]) (mem := []) (d11 g_5 (e_8 (d11 (abt (dec_t c2)) az))) (by kernel_rfl) (by kernel_rfl) (rts_sc rfl)
    · have h := h.2 c2
      exact sl (ts := [1, 3]) (ids := [0]) (d := 0) (s0 := ⟨[(1, .ptr 0 0 0), (3, int 0)], [(0, .box [str s0.name, .sl 1 (s0.sizes.map cS), .sl 1 (s0.multiples.map cI), .sl 7 (s0.pieces.map cPiece), .sl 3 (s0.uses.map cUseOf), .sl 6 (s0.seams.map cSeam), .sl 5 (s0.ops.map cOperation)])], 1⟩) (d11 g_5 (e_8 (d11 (abf (dec_f c2)) az))) (by kernel_rfl) (by kernel_rfl) (Weak.anew [(0, some 0)] (by rfl) (wt_cons rfl (wk_ptr rfl) (wt_cons rfl wk_sc wt_nil)) (wm_box rfl rfl (wl_cons wk_sc (wl_cons wk_sl (wl_cons wk_sl (wl_cons wk_sl (wl_cons wk_sl (wl_cons wk_sl (wl_cons wk_sl wl_nil))))))) wm_nil)) (garmentlaw22_light_W0 s0 r0 I0 M0 h0 0 h)

-- garmentref21.Light
def garmentref21_Light_S0 (listappend : Piece) (a : Int) (v5 : Int) (v6 : Int) : AS := ⟨[(1, int a), (2, .ptr 0 0 0), (5, int v5), (6, int v6)], [(0, .box [str listappend.name, .sl 2 (listappend.edges.map cEdge), int listappend.grain, .sl 2 (listappend.notches.map cNotch), .sl 2 (listappend.corners.map cSpot), .sl 1 (listappend.widths.map cI), boo listappend.match_])], 1⟩
abbrev garmentref21_Light_V (listappend : Piece) (a : Int) (r0 : Bool) (I0 : Int → Int → Prop) (M0 : Int → Int → Nat) : Prop := ((((listappend.edges.length : Nat) : Int) > 20 → r0 = false) ∧ (¬ (((listappend.edges.length : Nat) : Int) > 20) → ((((listappend.corners.length : Nat) : Int) > 20 → r0 = false) ∧ (¬ (((listappend.corners.length : Nat) : Int) > 20) → ((((listappend.widths.length : Nat) : Int) > 20 → r0 = false) ∧ (¬ (((listappend.widths.length : Nat) : Int) > 20) → ((((listappend.notches.length : Nat) : Int) > 20 → r0 = false) ∧ (¬ (((listappend.notches.length : Nat) : Int) > 20) → I0 0 0))))))))
abbrev garmentref21_Light_V0 (listappend : Piece) (a : Int) (r0 : Bool) (I0 : Int → Int → Prop) (M0 : Int → Int → Nat) (v5 : Int) (v6 : Int) : Prop := ((v6 < ((listappend.edges.length : Nat) : Int) → (Idx v6 listappend.edges.length) ∧ ((((((ai listappend.edges v6).line).length : Nat) : Int) > a → r0 = false) ∧ (¬ (((((ai listappend.edges v6).line).length : Nat) : Int) > a) → ((((((ai listappend.edges v6).name).size : Nat) : Int) > 100 → r0 = false) ∧ (¬ (((((ai listappend.edges v6).name).size : Nat) : Int) > 100) → (InR (v5 + ((((ai listappend.edges v6).line).length : Nat) : Int))) ∧ (InR (v6 + 1)) ∧ I0 (v5 + ((((ai listappend.edges v6).line).length : Nat) : Int)) (v6 + 1) ∧ M0 (v5 + ((((ai listappend.edges v6).line).length : Nat) : Int)) (v6 + 1) < M0 v5 v6))))) ∧ (¬ (v6 < ((listappend.edges.length : Nat) : Int)) → r0 = (decide (v5 ≤ a))))
theorem garmentref21_Light_W0 (listappend : Piece) (a : Int) (r0 : Bool) (I0 : Int → Int → Prop) (M0 : Int → Int → Nat) (h0 : ∀ (v5 : Int) (v6 : Int), I0 v5 v6 → garmentref21_Light_V0 listappend a r0 I0 M0 v5 v6) : ∀ (x : Int × Int), I0 x.1 x.2 → loopQ Tryd.prog XS Tryd.f19 0 (boo r0) [] (garmentref21_Light_S0 listappend a x.1 x.2) := by
  intro x0 hx0
  refine loop_rule (fun (x : Int × Int) => I0 x.1 x.2) (fun (x : Int × Int) => M0 x.1 x.2) (fun (x : Int × Int) => garmentref21_Light_S0 listappend a x.1 x.2) x0 hx0 ?_
  rintro ⟨v5, v6⟩ hx
  have h := h0 v5 v6 hx
  clear hx hx0 x0
  have g_1 := (olen cEdge Tryd.prog 56 2 listappend.edges (by kernel_rfl))
  by_cases c1 : v6 < ((listappend.edges.length : Nat) : Int)
  · have h := h.1 c1
    obtain ⟨c2, h⟩ := h
    have g_2 := (abt (dec_t c1))
    have g_3 := (oidx cEdge c2)
    have g_4 := (olen cSpot Tryd.prog 29 2 ((ai listappend.edges v6).line) (by kernel_rfl))
    have e_5 := fun {o : Orc} {q : List Prop} (r : At o q) => (d11 g_2 (d11 g_3 (d11 g_4 r)))
    by_cases c3 : ((((ai listappend.edges v6).line).length : Nat) : Int) > a
    · have h := h.1 c3
      have g_6 := (abt (dec_t c3))
      rw [h]
      exact sr (ids := []) (vs := [boo false]) (mem := []) (d11 g_1 (e_5 (d11 g_6 (d11 g_6 (d11 g_6 (d11 g_6 (d11 g_6 (d11 g_6 (d11 g_6 (d11 g_6 (d11 g_6 (d11 abtt az)))))))))))) (by kernel_rfl) (by kernel_rfl) (rts_sc rfl)
    · have h := h.2 c3
      have g_7 := (abf (dec_f c3))
      have e_8 := fun {o : Orc} {q : List Prop} (r : At o q) => (d11 g_7 (d11 g_7 (d11 g_7 (d11 g_7 (d11 g_3 (d11 g_7 (d11 g_7 (d11 g_7 (d11 (olens Tryd.prog 9 ((ai listappend.edges v6).name) (by kernel_rfl)) (d11 g_7 (d11 g_7 r)))))))))))
      by_cases c4 : ((((ai listappend.edges v6).name).size : Nat) : Int) > 100
      · have h := h.1 c4
        have g_9 := (abt (dec_t c4))
        rw [h]
        exact sr (ids := []) (vs := [boo false]) (mem := []) (d11 g_1 (e_5 (e_8 (d11 g_9 az)))) (by kernel_rfl) (by kernel_rfl) (rts_sc rfl)
      · have h := h.2 c4
        obtain ⟨c5, c6, h⟩ := h
        have g_10 := (abf (dec_f c4))
        exact sb (ts := [1, 2, 5, 6]) (ids := [0]) (d := 0) (s0 := ⟨[(1, int a), (2, .ptr 0 0 0), (5, int (v5 + ((((ai listappend.edges v6).line).length : Nat) : Int))), (6, int (v6 + 1))], [(0, .box [str listappend.name, .sl 2 (listappend.edges.map cEdge), int listappend.grain, .sl 2 (listappend.notches.map cNotch), .sl 2 (listappend.corners.map cSpot), .sl 1 (listappend.widths.map cI), boo listappend.match_])], 1⟩) (d11 g_1 (e_5 (e_8 (d11 g_10 (d11 g_3 (d11 g_4 (d11 (oadd Tryd.prog 3 (wi64 c5)) (d11 (oadd Tryd.prog 3 (wi64 c6)) az)))))))) (by kernel_rfl) (by kernel_rfl) rfl ((v5 + ((((ai listappend.edges v6).line).length : Nat) : Int)), (v6 + 1)) h.1 h.2 (Weak.anew [(0, some 0)] (by rfl) (wt_cons rfl wk_sc (wt_cons rfl (wk_ptr rfl) (wt_cons rfl wk_sc (wt_cons rfl wk_sc wt_nil)))) (wm_box rfl rfl (wl_cons wk_sc (wl_cons wk_sl (wl_cons wk_sc (wl_cons wk_sl (wl_cons wk_sl (wl_cons wk_sl (wl_cons wk_sc wl_nil))))))) wm_nil))
  · have h := h.2 c1
    have g_11 := (abf (dec_f c1))
    rw [h]
    exact sr (ids := []) (vs := [boo (decide (v5 ≤ a))]) (mem := []) (d11 g_1 (d11 g_11 az)) (by kernel_rfl) (by kernel_rfl) (rts_sc rfl)
theorem garmentref21_Light_W (listappend : Piece) (a : Int) (r0 : Bool) (I0 : Int → Int → Prop) (M0 : Int → Int → Nat) (h : garmentref21_Light_V listappend a r0 I0 M0) (h0 : ∀ (v5 : Int) (v6 : Int), I0 v5 v6 → garmentref21_Light_V0 listappend a r0 I0 M0 v5 v6) : Ret Tryd.prog XS 19 [.agg [str listappend.name, .sl 2 (listappend.edges.map cEdge), int listappend.grain, .sl 2 (listappend.notches.map cNotch), .sl 2 (listappend.corners.map cSpot), .sl 1 (listappend.widths.map cI), boo listappend.match_], int a] (boo r0) := by
  refine fn_rule Tryd.func19 (by kernel_rfl) (by kernel_rfl) (by kernel_rfl) (by kernel_rfl) ?_
  have g_12 := (olen cEdge Tryd.prog 56 2 listappend.edges (by kernel_rfl))
  by_cases c1 : ((listappend.edges.length : Nat) : Int) > 20
  · have h := h.1 c1
    have g_13 := (abt (dec_t c1))
    rw [h]
    exact sr (ids := []) (vs := [boo false]) (mem := []) (d11 g_12 (d11 g_13 (d11 g_13 (d11 g_13 (d11 g_13 (d11 g_13 (d11 abtt (d11 abtt (d11 abtt (d11 abtt (d11 abtt (d11 abtt (d11 abtt (d11 abtt (d11 abtt (d11 abtt (d11 abtt az))))))))))))))))) (by kernel_rfl) (by kernel_rfl) (rts_sc rfl)
  · have h := h.2 c1
    have g_14 := (abf (dec_f c1))
    have e_15 := fun {o : Orc} {q : List Prop} (r : At o q) => (d11 g_14 (d11 g_14 (d11 g_14 (d11 (olen cSpot Tryd.prog 29 2 listappend.corners (by kernel_rfl)) (d11 g_14 (d11 g_14 r))))))
    by_cases c2 : ((listappend.corners.length : Nat) : Int) > 20
    · have h := h.1 c2
      have g_16 := (abt (dec_t c2))
      rw [h]
      exact sr (ids := []) (vs := [boo false]) (mem := []) (d11 g_12 (e_15 (d11 g_16 (d11 g_16 (d11 g_16 (d11 g_16 (d11 g_16 (d11 abtt (d11 abtt (d11 abtt (d11 abtt (d11 abtt (d11 abtt az))))))))))))) (by kernel_rfl) (by kernel_rfl) (rts_sc rfl)
    · have h := h.2 c2
      have g_17 := (abf (dec_f c2))
      have e_18 := fun {o : Orc} {q : List Prop} (r : At o q) => (d11 g_17 (d11 g_17 (d11 g_17 (d11 (olen cI Tryd.prog 40 1 listappend.widths (by kernel_rfl)) (d11 g_17 (d11 g_17 r))))))
      by_cases c3 : ((listappend.widths.length : Nat) : Int) > 20
      · have h := h.1 c3
        have g_19 := (abt (dec_t c3))
        rw [h]
        exact sr (ids := []) (vs := [boo false]) (mem := []) (d11 g_12 (e_15 (e_18 (d11 g_19 (d11 g_19 (d11 g_19 (d11 g_19 (d11 g_19 (d11 abtt az))))))))) (by kernel_rfl) (by kernel_rfl) (rts_sc rfl)
      · have h := h.2 c3
        have g_20 := (abf (dec_f c3))
        have e_21 := fun {o : Orc} {q : List Prop} (r : At o q) => (d11 g_20 (d11 g_20 (d11 g_20 (d11 (olen cNotch Tryd.prog 57 2 listappend.notches (by kernel_rfl)) (d11 g_20 (d11 g_20 r))))))
        by_cases c4 : ((listappend.notches.length : Nat) : Int) > 20
        · have h := h.1 c4
          have g_22 := (abt (dec_t c4))
          rw [h]
          exact sr (ids := []) (vs := [boo false]) (mem := []) (d11 g_12 (e_15 (e_18 (e_21 (d11 g_22 az))))) (by kernel_rfl) (by kernel_rfl) (rts_sc rfl)
        · have h := h.2 c4
          have g_23 := (abf (dec_f c4))
          exact sl (ts := [1, 2, 5, 6]) (ids := [0]) (d := 0) (s0 := ⟨[(1, int a), (2, .ptr 0 0 0), (5, int 0), (6, int 0)], [(0, .box [str listappend.name, .sl 2 (listappend.edges.map cEdge), int listappend.grain, .sl 2 (listappend.notches.map cNotch), .sl 2 (listappend.corners.map cSpot), .sl 1 (listappend.widths.map cI), boo listappend.match_])], 1⟩) (d11 g_12 (e_15 (e_18 (e_21 (d11 g_23 az))))) (by kernel_rfl) (by kernel_rfl) (Weak.anew [(0, some 0)] (by rfl) (wt_cons rfl wk_sc (wt_cons rfl (wk_ptr rfl) (wt_cons rfl wk_sc (wt_cons rfl wk_sc wt_nil)))) (wm_box rfl rfl (wl_cons wk_sc (wl_cons wk_sl (wl_cons wk_sc (wl_cons wk_sl (wl_cons wk_sl (wl_cons wk_sl (wl_cons wk_sc wl_nil))))))) wm_nil)) (garmentref21_Light_W0 listappend a r0 I0 M0 h0 (0, 0) h)

end Go.Ab
end

section
namespace Go.Ab
open Go.Proofs
set_option maxRecDepth 1000000
set_option linter.unusedVariables false
attribute [local irreducible] todoQ
-- seam.Lengths
abbrev seam_Lengths_V (listappend : Style) (a : Int) (a2 : Int) (r0 : Int) (r1 : Int) (r2 : Int) : Prop := ((a < 0 → r0 = 0 ∧ r1 = 0 ∧ r2 = 3) ∧ (¬ (a < 0) → ((a ≥ ((listappend.multiples.length : Nat) : Int) → r0 = 0 ∧ r1 = 0 ∧ r2 = 3) ∧ (¬ (a ≥ ((listappend.multiples.length : Nat) : Int)) → ((a2 < 0 → r0 = 0 ∧ r1 = 0 ∧ r2 = 3) ∧ (¬ (a2 < 0) → ((a2 ≥ ((listappend.seams.length : Nat) : Int) → r0 = 0 ∧ r1 = 0 ∧ r2 = 3) ∧ (¬ (a2 ≥ ((listappend.seams.length : Nat) : Int)) → (Idx a2 listappend.seams.length) ∧ (Idx a listappend.multiples.length) ∧ (∃ (exists1 : Bool), Ret Tryd.prog XS 30 [.agg [str listappend.name, .sl 1 (listappend.sizes.map cS), .sl 1 (listappend.multiples.map cI), .sl 7 (listappend.pieces.map cPiece), .sl 3 (listappend.uses.map cUseOf), .sl 6 (listappend.seams.map cSeam), .sl 5 (listappend.ops.map cOperation)], int ((ai listappend.seams a2).pieceA), int ((ai listappend.seams a2).edgeA)] (boo exists1) ∧ ((exists1 = true → (∃ (exists2 : Bool), Ret Tryd.prog XS 30 [.agg [str listappend.name, .sl 1 (listappend.sizes.map cS), .sl 1 (listappend.multiples.map cI), .sl 7 (listappend.pieces.map cPiece), .sl 3 (listappend.uses.map cUseOf), .sl 6 (listappend.seams.map cSeam), .sl 5 (listappend.ops.map cOperation)], int ((ai listappend.seams a2).pieceB), int ((ai listappend.seams a2).edgeB)] (boo exists2) ∧ ((exists2 = true → (Idx ((ai listappend.seams a2).pieceA) listappend.pieces.length) ∧ (∃ (edge3a : Int) (edge3b : Int), Ret Tryd.prog XS 31 [.agg [str ((ai listappend.pieces ((ai listappend.seams a2).pieceA)).name), .sl 2 (((ai listappend.pieces ((ai listappend.seams a2).pieceA)).edges).map cEdge), int ((ai listappend.pieces ((ai listappend.seams a2).pieceA)).grain), .sl 2 (((ai listappend.pieces ((ai listappend.seams a2).pieceA)).notches).map cNotch), .sl 2 (((ai listappend.pieces ((ai listappend.seams a2).pieceA)).corners).map cSpot), .sl 1 (((ai listappend.pieces ((ai listappend.seams a2).pieceA)).widths).map cI), boo ((ai listappend.pieces ((ai listappend.seams a2).pieceA)).match_)], int ((ai listappend.seams a2).edgeA), int (ai listappend.multiples a)] (.tup [int edge3a, int edge3b]) ∧ ((edge3b = 0 → (Idx ((ai listappend.seams a2).pieceB) listappend.pieces.length) ∧ (∃ (edge4a : Int) (edge4b : Int), Ret Tryd.prog XS 31 [.agg [str ((ai listappend.pieces ((ai listappend.seams a2).pieceB)).name), .sl 2 (((ai listappend.pieces ((ai listappend.seams a2).pieceB)).edges).map cEdge), int ((ai listappend.pieces ((ai listappend.seams a2).pieceB)).grain), .sl 2 (((ai listappend.pieces ((ai listappend.seams a2).pieceB)).notches).map cNotch), .sl 2 (((ai listappend.pieces ((ai listappend.seams a2).pieceB)).corners).map cSpot), .sl 1 (((ai listappend.pieces ((ai listappend.seams a2).pieceB)).widths).map cI), boo ((ai listappend.pieces ((ai listappend.seams a2).pieceB)).match_)], int ((ai listappend.seams a2).edgeB), int (ai listappend.multiples a)] (.tup [int edge4a, int edge4b]) ∧ ((edge4b = 0 → r0 = edge3a ∧ r1 = edge4a ∧ r2 = 0) ∧ (¬ (edge4b = 0) → r0 = 0 ∧ r1 = 0 ∧ r2 = edge4b)))) ∧ (¬ (edge3b = 0) → r0 = 0 ∧ r1 = 0 ∧ r2 = edge3b)))) ∧ (exists2 = false → r0 = 0 ∧ r1 = 0 ∧ r2 = 3)))) ∧ (exists1 = false → r0 = 0 ∧ r1 = 0 ∧ r2 = 3)))))))))))
theorem seam_Lengths_W (listappend : Style) (a : Int) (a2 : Int) (r0 : Int) (r1 : Int) (r2 : Int) (h : seam_Lengths_V listappend a a2 r0 r1 r2) : Ret Tryd.prog XS 16 [.agg [str listappend.name, .sl 1 (listappend.sizes.map cS), .sl 1 (listappend.multiples.map cI), .sl 7 (listappend.pieces.map cPiece), .sl 3 (listappend.uses.map cUseOf), .sl 6 (listappend.seams.map cSeam), .sl 5 (listappend.ops.map cOperation)], int a, int a2] (.tup [int r0, int r1, int r2]) := by
  refine fn_rule Tryd.func16 (by kernel_rfl) (by kernel_rfl) (by kernel_rfl) (by kernel_rfl) ?_
  by_cases c1 : a < 0
  · have h := h.1 c1
    have g_1 := (abt (dec_t c1))
    rw [h.1, h.2.1, h.2.2]
    exact sr (ids := []) (vs := [int 0, int 0, int 3]) (mem := []) (d11 g_1 (d11 g_1 (d11 g_1 (d11 g_1 (d11 g_1 (d11 g_1 (d11 abtt (d11 abtt (d11 abtt (d11 abtt (d11 abtt (d11 abtt (d11 abtt (d11 abtt (d11 abtt (d11 abtt az)))))))))))))))) (by kernel_rfl) (by kernel_rfl) (rts_sc (rts_sc (rts_sc rfl)))
  · have h := h.2 c1
    have g_2 := (abf (dec_f c1))
    have e_3 := fun {o : Orc} {q : List Prop} (r : At o q) => (d11 g_2 (d11 g_2 (d11 g_2 (d11 g_2 (d11 (olen cI Tryd.prog 40 1 listappend.multiples (by kernel_rfl)) (d11 g_2 (d11 g_2 r)))))))
    by_cases c2 : a ≥ ((listappend.multiples.length : Nat) : Int)
    · have h := h.1 c2
      have g_4 := (abt (dec_t c2))
      rw [h.1, h.2.1, h.2.2]
      exact sr (ids := []) (vs := [int 0, int 0, int 3]) (mem := []) (e_3 (d11 g_4 (d11 g_4 (d11 g_4 (d11 abtt (d11 abtt (d11 abtt (d11 abtt (d11 abtt (d11 abtt (d11 abtt az))))))))))) (by kernel_rfl) (by kernel_rfl) (rts_sc (rts_sc (rts_sc rfl)))
    · have h := h.2 c2
      have g_5 := (abf (dec_f c2))
      have e_6 := fun {o : Orc} {q : List Prop} (r : At o q) => (d11 g_5 (d11 g_5 (d11 g_5 r)))
      by_cases c3 : a2 < 0
      · have h := h.1 c3
        have g_7 := (abt (dec_t c3))
        rw [h.1, h.2.1, h.2.2]
        exact sr (ids := []) (vs := [int 0, int 0, int 3]) (mem := []) (e_3 (e_6 (d11 g_7 (d11 g_7 (d11 g_7 (d11 g_7 (d11 g_7 (d11 g_7 (d11 abtt az))))))))) (by kernel_rfl) (by kernel_rfl) (rts_sc (rts_sc (rts_sc rfl)))
      · have h := h.2 c3
        have g_8 := (abf (dec_f c3))
        have e_9 := fun {o : Orc} {q : List Prop} (r : At o q) => (d11 g_8 (d11 g_8 (d11 g_8 (d11 g_8 (d11 (olen cSeam Tryd.prog 43 6 listappend.seams (by kernel_rfl)) (d11 g_8 (d11 g_8 r)))))))
        by_cases c4 : a2 ≥ ((listappend.seams.length : Nat) : Int)
        · have h := h.1 c4
          rw [h.1, h.2.1, h.2.2]
          exact sr (ids := []) (vs := [int 0, int 0, int 3]) (mem := []) (e_3 (e_6 (e_9 (d11 (abt (dec_t c4)) az)))) (by kernel_rfl) (by kernel_rfl) (rts_sc (rts_sc (rts_sc rfl)))
        · have h := h.2 c4
          obtain ⟨c5, c6, exists1, c7, h⟩ := h
          have e_10 := fun {o : Orc} {q : List Prop} (r : At o q) => (d11 (abf (dec_f c4)) (d11 (oidx cSeam c5) (d11 (oidx cI c6) (d11 (ocs c7) r))))
          rcases Bool.eq_false_or_eq_true exists1 with c8 | c8
          · have h := h.1 c8
            obtain ⟨exists2, c9, h⟩ := h
            have g_11 := (abf (not_f c8))
            have e_12 := fun {o : Orc} {q : List Prop} (r : At o q) => (d11 g_11 (d11 g_11 (d11 g_11 (d11 g_11 (d11 g_11 (d11 g_11 (d11 (ocs c9) (d11 g_11 (d11 g_11 r)))))))))
            rcases Bool.eq_false_or_eq_true exists2 with c10 | c10
            · have h := h.1 c10
              obtain ⟨c11, edge3a, edge3b, c12, h⟩ := h
              have e_13 := fun {o : Orc} {q : List Prop} (r : At o q) => (d11 (abf (not_f c10)) (d11 (oidx cPiece c11) (d11 (ocs c12) r)))
              by_cases c13 : edge3b = 0
              · have h := h.1 c13
                obtain ⟨c14, edge4a, edge4b, c15, h⟩ := h
                have e_14 := fun {o : Orc} {q : List Prop} (r : At o q) => (d11 (abf (bne_f c13)) (d11 (oidx cPiece c14) (d11 (ocs c15) r)))
                by_cases c16 : edge4b = 0
                · have h := h.1 c16
                  rw [h.1, h.2.1, h.2.2]
                  exact sr (ids := []) (vs := [int edge3a, int edge4a, int 0]) (mem := []) (e_3 (e_6 (e_9 (e_10 (e_12 (e_13 (e_14 (d11 (abf (bne_f c16)) az)))))))) (by kernel_rfl) (by kernel_rfl) (rts_sc (rts_sc (rts_sc rfl)))
                · have h := h.2 c16
                  rw [h.1, h.2.1, h.2.2]
                  exact sr (ids := []) (vs := [int 0, int 0, int edge4b]) (mem := []) (e_3 (e_6 (e_9 (e_10 (e_12 (e_13 (e_14 (d11 (abt (bne_t c16)) az)))))))) (by kernel_rfl) (by kernel_rfl) (rts_sc (rts_sc (rts_sc rfl)))
              · have h := h.2 c13
                rw [h.1, h.2.1, h.2.2]
                exact sr (ids := []) (vs := [int 0, int 0, int edge3b]) (mem := []) (e_3 (e_6 (e_9 (e_10 (e_12 (e_13 (d11 (abt (bne_t c13)) az))))))) (by kernel_rfl) (by kernel_rfl) (rts_sc (rts_sc (rts_sc rfl)))
            · have h := h.2 c10
              rw [h.1, h.2.1, h.2.2]
              exact sr (ids := []) (vs := [int 0, int 0, int 3]) (mem := []) (e_3 (e_6 (e_9 (e_10 (e_12 (d11 (abt (not_t c10)) az)))))) (by kernel_rfl) (by kernel_rfl) (rts_sc (rts_sc (rts_sc rfl)))
          · have h := h.2 c8
            have g_15 := (abt (not_t c8))
            rw [h.1, h.2.1, h.2.2]
            exact sr (ids := []) (vs := [int 0, int 0, int 3]) (mem := []) (e_3 (e_6 (e_9 (e_10 (d11 g_15 (d11 g_15 (d11 g_15 (d11 g_15 (d11 g_15 (d11 g_15 (d11 g_15 (d11 g_15 (d11 abtt az))))))))))))) (by kernel_rfl) (by kernel_rfl) (rts_sc (rts_sc (rts_sc rfl)))

-- seam.exists
abbrev seam_exists_V (s0 : Style) (piece : Int) (edge : Int) (r0 : Bool) : Prop := ((piece ≥ 0 → ((piece < ((s0.pieces.length : Nat) : Int) → ((edge ≥ 0 → (Idx piece s0.pieces.length) ∧ r0 = (decide (edge < ((((ai s0.pieces piece).edges).length : Nat) : Int)))) ∧ (¬ (edge ≥ 0) → r0 = false))) ∧ (¬ (piece < ((s0.pieces.length : Nat) : Int)) → r0 = false))) ∧ (¬ (piece ≥ 0) → r0 = false))
theorem seam_exists_W (s0 : Style) (piece : Int) (edge : Int) (r0 : Bool) (h : seam_exists_V s0 piece edge r0) : Ret Tryd.prog XS 30 [.agg [str s0.name, .sl 1 (s0.sizes.map cS), .sl 1 (s0.multiples.map cI), .sl 7 (s0.pieces.map cPiece), .sl 3 (s0.uses.map cUseOf), .sl 6 (s0.seams.map cSeam), .sl 5 (s0.ops.map cOperation)], int piece, int edge] (boo r0) := by
  refine fn_rule Tryd.func30 (by kernel_rfl) (by kernel_rfl) (by kernel_rfl) (by kernel_rfl) ?_
  by_cases c1 : piece ≥ 0
  · have h := h.1 c1
    have g_1 := (abt (dec_t c1))
    have e_2 := fun {o : Orc} {q : List Prop} (r : At o q) => (d11 g_1 (d11 g_1 (d11 g_1 (d11 g_1 (d11 (olen cPiece Tryd.prog 41 7 s0.pieces (by kernel_rfl)) (d11 g_1 (d11 g_1 r)))))))
    by_cases c2 : piece < ((s0.pieces.length : Nat) : Int)
    · have h := h.1 c2
      have g_3 := (abt (dec_t c2))
      have e_4 := fun {o : Orc} {q : List Prop} (r : At o q) => (d11 g_3 (d11 g_3 (d11 g_3 r)))
      by_cases c3 : edge ≥ 0
      · have h := h.1 c3
        obtain ⟨c4, h⟩ := h
        have g_5 := (abt (dec_t c3))
        rw [h]
        exact sr (ids := []) (vs := [boo (decide (edge < ((((ai s0.pieces piece).edges).length : Nat) : Int)))]) (mem := []) (e_2 (e_4 (d11 g_5 (d11 g_5 (d11 g_5 (d11 g_5 (d11 g_5 (d11 (oidx cPiece c4) (d11 g_5 (d11 g_5 (d11 g_5 (d11 (olen cEdge Tryd.prog 56 2 ((ai s0.pieces piece).edges) (by kernel_rfl)) (d11 g_5 (d11 g_5 az)))))))))))))) (by kernel_rfl) (by kernel_rfl) (rts_sc rfl)
      · have h := h.2 c3
        have g_6 := (abf (dec_f c3))
        rw [h]
        exact sr (ids := []) (vs := [boo false]) (mem := []) (e_2 (e_4 (d11 g_6 (d11 g_6 (d11 g_6 (d11 g_6 (d11 g_6 (d11 g_6 (d11 g_6 (d11 g_6 (d11 g_6 (d11 g_6 az)))))))))))) (by kernel_rfl) (by kernel_rfl) (rts_sc rfl)
    · have h := h.2 c2
      have g_7 := (abf (dec_f c2))
      rw [h]
      exact sr (ids := []) (vs := [boo false]) (mem := []) (e_2 (d11 g_7 (d11 g_7 (d11 g_7 (d11 abff (d11 abff (d11 abff (d11 abff (d11 abff (d11 abff (d11 abff (d11 abff (d11 abff (d11 abff az)))))))))))))) (by kernel_rfl) (by kernel_rfl) (rts_sc rfl)
  · have h := h.2 c1
    have g_8 := (abf (dec_f c1))
    rw [h]
    exact sr (ids := []) (vs := [boo false]) (mem := []) (d11 g_8 (d11 g_8 (d11 g_8 (d11 g_8 (d11 g_8 (d11 g_8 (d11 abff (d11 abff (d11 abff (d11 abff (d11 abff (d11 abff (d11 abff (d11 abff (d11 abff (d11 abff (d11 abff (d11 abff (d11 abff az))))))))))))))))))) (by kernel_rfl) (by kernel_rfl) (rts_sc rfl)

-- seam.edge
abbrev seam_edge_V (p : Piece) (n : Int) (multiple : Int) (r0 : Int) (r1 : Int) : Prop := (∃ (graded1a : List Edge) (graded1b : Int), Ret Tryd.prog XS 20 [.agg [str p.name, .sl 2 (p.edges.map cEdge), int p.grain, .sl 2 (p.notches.map cNotch), .sl 2 (p.corners.map cSpot), .sl 1 (p.widths.map cI), boo p.match_], int multiple] (.tup [.fr 2 (graded1a.map cEdge), int graded1b]) ∧ ((graded1b = 0 → (Idx n graded1a.length) ∧ (∃ (length2a : Int) (length2b : Int), Ret Tryd.prog XS 22 [.sl 2 (((ai graded1a n).line).map cSpot)] (.tup [int length2a, int length2b]) ∧ r0 = length2a ∧ r1 = length2b)) ∧ (¬ (graded1b = 0) → r0 = 0 ∧ r1 = graded1b)))
theorem seam_edge_W (p : Piece) (n : Int) (multiple : Int) (r0 : Int) (r1 : Int) (h : seam_edge_V p n multiple r0 r1) : Ret Tryd.prog XS 31 [.agg [str p.name, .sl 2 (p.edges.map cEdge), int p.grain, .sl 2 (p.notches.map cNotch), .sl 2 (p.corners.map cSpot), .sl 1 (p.widths.map cI), boo p.match_], int n, int multiple] (.tup [int r0, int r1]) := by
  refine fn_rule Tryd.func31 (by kernel_rfl) (by kernel_rfl) (by kernel_rfl) (by kernel_rfl) ?_
  obtain ⟨graded1a, graded1b, c1, h⟩ := h
  have e_1 := fun {o : Orc} {q : List Prop} (r : At o q) => (d11 (ocs c1) r)
  by_cases c2 : graded1b = 0
  · have h := h.1 c2
    obtain ⟨c3, length2a, length2b, c4, h⟩ := h
    rw [h.1, h.2]
    exact sr (ids := []) (vs := [int length2a, int length2b]) (mem := []) (e_1 (d11 (abf (bne_f c2)) (d01 (oown cEdge (n := (graded1a.map cEdge).length) (List.length_map ..) c3) (d11 (orow cEdge c3) (d11 (ocs c4) az))))) (by kernel_rfl) (by kernel_rfl) (rts_sc (rts_sc rfl))
  · have h := h.2 c2
    rw [h.1, h.2]
    exact sr (ids := []) (vs := [int 0, int graded1b]) (mem := []) (e_1 (d11 (abt (bne_t c2)) az)) (by kernel_rfl) (by kernel_rfl) (rts_sc (rts_sc rfl))

-- grade.Graded
def grade_Graded_S0 (listappend : Piece) (a : Int) (v34 : Int) : AS := ⟨[(1, int a), (2, .ptr 0 0 0), (32, .sl 2 (listappend.corners.map cSpot)), (33, int ((listappend.corners.length : Nat) : Int)), (34, int v34)], [(0, .box [str listappend.name, .sl 2 (listappend.edges.map cEdge), int listappend.grain, .sl 2 (listappend.notches.map cNotch), .sl 2 (listappend.corners.map cSpot), .sl 1 (listappend.widths.map cI), boo listappend.match_])], 1⟩
def grade_Graded_S1 (listappend : Piece) (a : Int) (v10 : List Edge) (v53 : Int) : AS := ⟨[(2, .ptr 0 0 0), (9, .fn 34 [int a] []), (10, .own 1 0 v10.length), (51, .sl 2 (listappend.edges.map cEdge)), (52, int ((listappend.edges.length : Nat) : Int)), (53, int v53)], [(1, .row 2 (v10.map cEdge)), (0, .box [str listappend.name, .sl 2 (listappend.edges.map cEdge), int listappend.grain, .sl 2 (listappend.notches.map cNotch), .sl 2 (listappend.corners.map cSpot), .sl 1 (listappend.widths.map cI), boo listappend.match_])], 2⟩
abbrev grade_Graded_V (listappend : Piece) (a : Int) (r0 : List Edge) (r1 : Int) (I0 : Int → Prop) (M0 : Int → Nat) (I1 : (List Edge) → Int → Prop) (M1 : (List Edge) → Int → Nat) : Prop := ((a < (-100) → r0 = ([] : List Edge) ∧ r1 = 3) ∧ (¬ (a < (-100)) → ((a > 100 → r0 = ([] : List Edge) ∧ r1 = 3) ∧ (¬ (a > 100) → ((((listappend.corners.length : Nat) : Int) = ((listappend.edges.length : Nat) : Int) → I0 0) ∧ (¬ (((listappend.corners.length : Nat) : Int) = ((listappend.edges.length : Nat) : Int)) → r0 = ([] : List Edge) ∧ r1 = 1))))))
abbrev grade_Graded_V0 (listappend : Piece) (a : Int) (r0 : List Edge) (r1 : Int) (I0 : Int → Prop) (M0 : Int → Nat) (I1 : (List Edge) → Int → Prop) (M1 : (List Edge) → Int → Nat) (v34 : Int) : Prop := ((v34 < ((listappend.corners.length : Nat) : Int) → (Idx v34 listappend.corners.length) ∧ (∃ (shifted1 : Bool), Ret Tryd.prog XS 32 [.agg [int ((ai listappend.corners v34).x), int ((ai listappend.corners v34).y)]] (boo shifted1) ∧ ((shifted1 = true → (InR (v34 + 1)) ∧ I0 (v34 + 1) ∧ M0 (v34 + 1) < M0 v34) ∧ (shifted1 = false → r0 = ([] : List Edge) ∧ r1 = 3)))) ∧ (¬ (v34 < ((listappend.corners.length : Nat) : Int)) → (∃ (check1 : Int), Ret Tryd.prog XS 33 [.sl 2 (listappend.edges.map cEdge)] (int check1) ∧ ((check1 = 0 → I1 ([] : List Edge) 0) ∧ (¬ (check1 = 0) → r0 = ([] : List Edge) ∧ r1 = check1)))))
abbrev grade_Graded_V1 (listappend : Piece) (a : Int) (r0 : List Edge) (r1 : Int) (I0 : Int → Prop) (M0 : Int → Nat) (I1 : (List Edge) → Int → Prop) (M1 : (List Edge) → Int → Nat) (v10 : List Edge) (v53 : Int) : Prop := ((v53 < ((listappend.edges.length : Nat) : Int) → (Idx v53 listappend.edges.length) ∧ (Idx v53 listappend.corners.length) ∧ (∃ (move1 : Spot), Ret Tryd.prog XS 34 [int a, .agg [int ((ai listappend.corners v53).x), int ((ai listappend.corners v53).y)]] (.agg [int move1.x, int move1.y]) ∧ (InR (v53 + 1)) ∧ (((listappend.corners.length : Nat) : Int) ≠ 0) ∧ (Idx ((v53 + 1).tmod ((listappend.corners.length : Nat) : Int)) listappend.corners.length) ∧ (∃ (move2 : Spot), Ret Tryd.prog XS 34 [int a, .agg [int ((ai listappend.corners ((v53 + 1).tmod ((listappend.corners.length : Nat) : Int))).x), int ((ai listappend.corners ((v53 + 1).tmod ((listappend.corners.length : Nat) : Int))).y)]] (.agg [int move2.x, int move2.y]) ∧ (∃ (along3 : List Spot), Ret Tryd.prog XS 35 [.sl 2 (((ai listappend.edges v53).line).map cSpot), .agg [int move1.x, int move1.y], .agg [int move2.x, int move2.y]] (.fr 2 (along3.map cSpot)) ∧ (Cap 40 (v10 ++ ([(⟨(ai listappend.edges v53).name, along3⟩ : Edge)] : List Edge)).length) ∧ I1 (v10 ++ ([(⟨(ai listappend.edges v53).name, along3⟩ : Edge)] : List Edge)) (v53 + 1) ∧ M1 (v10 ++ ([(⟨(ai listappend.edges v53).name, along3⟩ : Edge)] : List Edge)) (v53 + 1) < M1 v10 v53)))) ∧ (¬ (v53 < ((listappend.edges.length : Nat) : Int)) → (∃ (check1_1 : Int), Ret Tryd.prog XS 33 [.sl 2 (v10.map cEdge)] (int check1_1) ∧ ((check1_1 = 0 → r0 = v10 ∧ r1 = 0) ∧ (¬ (check1_1 = 0) → r0 = ([] : List Edge) ∧ r1 = check1_1)))))
theorem grade_Graded_W1 (listappend : Piece) (a : Int) (r0 : List Edge) (r1 : Int) (I0 : Int → Prop) (M0 : Int → Nat) (I1 : (List Edge) → Int → Prop) (M1 : (List Edge) → Int → Nat) (h0 : ∀ (v34 : Int), I0 v34 → grade_Graded_V0 listappend a r0 r1 I0 M0 I1 M1 v34) (h1 : ∀ (v10 : List Edge) (v53 : Int), I1 v10 v53 → grade_Graded_V1 listappend a r0 r1 I0 M0 I1 M1 v10 v53) : ∀ (x : (List Edge) × Int), I1 x.1 x.2 → loopQ Tryd.prog XS Tryd.f20 1 (.tup [.fr 2 (r0.map cEdge), int r1]) [] (grade_Graded_S1 listappend a x.1 x.2) := by
  intro x0 hx0
  refine loop_rule (fun (x : (List Edge) × Int) => I1 x.1 x.2) (fun (x : (List Edge) × Int) => M1 x.1 x.2) (fun (x : (List Edge) × Int) => grade_Graded_S1 listappend a x.1 x.2) x0 hx0 ?_
  rintro ⟨v10, v53⟩ hx
  have h := h1 v10 v53 hx
  clear hx hx0 x0
  by_cases c1 : v53 < ((listappend.edges.length : Nat) : Int)
  · have h := h.1 c1
    obtain ⟨c2, c3, move1, c4, c5, c6, c7, move2, c8, along3, c9, c10, h⟩ := h
    have g_1 := (abt (dec_t c1))
    have g_2 := (oadd Tryd.prog 3 (wi64 c5))
    have g_3 := (olen cSpot Tryd.prog 29 2 listappend.corners (by kernel_rfl))
    exact sb (ts := [2, 9, 10, 51, 52, 53]) (ids := [7, 0]) (d := 0) (s0 := ⟨[(2, .ptr 0 0 0), (9, .fn 34 [int a] []), (10, .own 7 0 ((v10 ++ ([(⟨(ai listappend.edges v53).name, along3⟩ : Edge)] : List Edge)).length)), (51, .sl 2 (listappend.edges.map cEdge)), (52, int ((listappend.edges.length : Nat) : Int)), (53, int (v53 + 1))], [(7, .row 2 ((v10 ++ ([(⟨(ai listappend.edges v53).name, along3⟩ : Edge)] : List Edge)).map cEdge)), (0, .box [str listappend.name, .sl 2 (listappend.edges.map cEdge), int listappend.grain, .sl 2 (listappend.notches.map cNotch), .sl 2 (listappend.corners.map cSpot), .sl 1 (listappend.widths.map cI), boo listappend.match_])], 8⟩) (d11 g_1 (d11 (oidx cEdge c2) (d11 (oidx cSpot c3) (d11 (ocs c4) (d11 g_2 (d11 g_3 (d11 (orem Tryd.prog 3 .i64 (v53 + 1) ((listappend.corners.length : Nat) : Int) c6) (d11 (oidx cSpot c7) (d11 (ocs c8) (d11 (ocs c9) (d11 (ofz cSpot along3 (n := (along3.map cSpot).length) (List.length_map ..)) (d12 (oappo cEdge (n := v10.length) (m := ([(⟨(ai listappend.edges v53).name, along3⟩ : Edge)] : List Edge).length) rfl rfl c10) (d11 g_2 az))))))))))))) (by kernel_rfl) (by kernel_rfl) rfl ((v10 ++ ([(⟨(ai listappend.edges v53).name, along3⟩ : Edge)] : List Edge)), (v53 + 1)) h.1 h.2 (Weak.anew [(1, some 7), (0, some 0)] (by rfl) (wt_cons rfl (wk_ptr rfl) (wt_cons rfl (wk_fn (wl_cons wk_sc wl_nil) wl_nil) (wt_cons rfl (wk_own rfl rfl) (wt_cons rfl wk_sl (wt_cons rfl wk_sc (wt_cons rfl wk_sc wt_nil)))))) (wm_row rfl rfl (wm_box rfl rfl (wl_cons wk_sc (wl_cons wk_sl (wl_cons wk_sc (wl_cons wk_sl (wl_cons wk_sl (wl_cons wk_sl (wl_cons wk_sc wl_nil))))))) wm_nil)))
  · have h := h.2 c1
    obtain ⟨check1_1, c2, h⟩ := h
    have g_4 := (abf (dec_f c1))
    have e_5 := fun {o : Orc} {q : List Prop} (r : At o q) => (d11 g_4 (d12 (ocl [1] [(1, .row 2 (v10.map cEdge))] [.own 1 0 v10.length] (as_cons (at_row rfl rfl) as_nil) c2) r))
    by_cases c3 : check1_1 = 0
    · have h := h.1 c3
      have g_6 := (abf (bne_f c3))
      rw [h.1, h.2]
      exact sr (ids := [1]) (vs := [.own 1 0 v10.length, int 0]) (mem := [(1, .row 2 (v10.map cEdge))]) (e_5 (d11 g_6 az)) (by kernel_rfl) (by kernel_rfl) (rts_own rfl rfl rfl (rts_sc rfl))
    · have h := h.2 c3
      have g_7 := (abt (bne_t c3))
      rw [h.1, h.2]
      exact sr (ids := []) (vs := [.nil, int check1_1]) (mem := []) (e_5 (d11 g_7 az)) (by kernel_rfl) (by kernel_rfl) (rts_nilfr (rts_sc rfl))
theorem grade_Graded_W0 (listappend : Piece) (a : Int) (r0 : List Edge) (r1 : Int) (I0 : Int → Prop) (M0 : Int → Nat) (I1 : (List Edge) → Int → Prop) (M1 : (List Edge) → Int → Nat) (h0 : ∀ (v34 : Int), I0 v34 → grade_Graded_V0 listappend a r0 r1 I0 M0 I1 M1 v34) (h1 : ∀ (v10 : List Edge) (v53 : Int), I1 v10 v53 → grade_Graded_V1 listappend a r0 r1 I0 M0 I1 M1 v10 v53) : ∀ (x : Int), I0 x → loopQ Tryd.prog XS Tryd.f20 0 (.tup [.fr 2 (r0.map cEdge), int r1]) [] (grade_Graded_S0 listappend a x) := by
  intro x0 hx0
  refine loop_rule (fun (x : Int) => I0 x) (fun (x : Int) => M0 x) (fun (x : Int) => grade_Graded_S0 listappend a x) x0 hx0 ?_
  intro v34 hx
  have h := h0 v34 hx
  clear hx hx0 x0
  by_cases c1 : v34 < ((listappend.corners.length : Nat) : Int)
  · have h := h.1 c1
    obtain ⟨c2, shifted1, c3, h⟩ := h
    have g_8 := (abt (dec_t c1))
    have e_9 := fun {o : Orc} {q : List Prop} (r : At o q) => (d11 g_8 (d11 (oidx cSpot c2) (d11 (ocs c3) r)))
    rcases Bool.eq_false_or_eq_true shifted1 with c4 | c4
    · have h := h.1 c4
      obtain ⟨c5, h⟩ := h
      have g_10 := (oadd Tryd.prog 3 (wi64 c5))
      exact sb (ts := [1, 2, 32, 33, 34]) (ids := [0]) (d := 0) (s0 := ⟨[(1, int a), (2, .ptr 0 0 0), (32, .sl 2 (listappend.corners.map cSpot)), (33, int ((listappend.corners.length : Nat) : Int)), (34, int (v34 + 1))], [(0, .box [str listappend.name, .sl 2 (listappend.edges.map cEdge), int listappend.grain, .sl 2 (listappend.notches.map cNotch), .sl 2 (listappend.corners.map cSpot), .sl 1 (listappend.widths.map cI), boo listappend.match_])], 2⟩) (e_9 (d11 (abf (not_f c4)) (d11 g_10 az))) (by kernel_rfl) (by kernel_rfl) rfl (v34 + 1) h.1 h.2 (Weak.anew [(0, some 0)] (by rfl) (wt_cons rfl wk_sc (wt_cons rfl (wk_ptr rfl) (wt_cons rfl wk_sl (wt_cons rfl wk_sc (wt_cons rfl wk_sc wt_nil))))) (wm_box rfl rfl (wl_cons wk_sc (wl_cons wk_sl (wl_cons wk_sc (wl_cons wk_sl (wl_cons wk_sl (wl_cons wk_sl (wl_cons wk_sc wl_nil))))))) wm_nil))
    · have h := h.2 c4
      rw [h.1, h.2]
      exact sr (ids := []) (vs := [.nil, int 3]) (mem := []) (e_9 (d11 (abt (not_t c4)) az)) (by kernel_rfl) (by kernel_rfl) (rts_nilfr (rts_sc rfl))
  · have h := h.2 c1
    obtain ⟨check1, c2, h⟩ := h
    have g_11 := (abf (dec_f c1))
    have e_12 := fun {o : Orc} {q : List Prop} (r : At o q) => (d11 g_11 (d11 (ocs c2) r))
    by_cases c3 : check1 = 0
    · have h := h.1 c3
      have g_13 := (abf (bne_f c3))
      have g_14 := (olen cEdge Tryd.prog 56 2 listappend.edges (by kernel_rfl))
      exact sl (ts := [2, 9, 10, 51, 52, 53]) (ids := [0]) (d := 1) (s0 := ⟨[(2, .ptr 0 0 0), (9, .fn 34 [int a] []), (10, .nil), (51, .sl 2 (listappend.edges.map cEdge)), (52, int ((listappend.edges.length : Nat) : Int)), (53, int 0)], [(0, .box [str listappend.name, .sl 2 (listappend.edges.map cEdge), int listappend.grain, .sl 2 (listappend.notches.map cNotch), .sl 2 (listappend.corners.map cSpot), .sl 1 (listappend.widths.map cI), boo listappend.match_])], 1⟩) (e_12 (d11 g_13 (d11 g_14 az))) (by kernel_rfl) (by kernel_rfl) (Weak.anew [(1, none), (0, some 0)] (by rfl) (wt_cons rfl (wk_ptr rfl) (wt_cons rfl (wk_fn (wl_cons wk_sc wl_nil) wl_nil) (wt_cons rfl (wk_nilown rfl) (wt_cons rfl wk_sl (wt_cons rfl wk_sc (wt_cons rfl wk_sc wt_nil)))))) (wm_none rfl (wm_box rfl rfl (wl_cons wk_sc (wl_cons wk_sl (wl_cons wk_sc (wl_cons wk_sl (wl_cons wk_sl (wl_cons wk_sl (wl_cons wk_sc wl_nil))))))) wm_nil))) (grade_Graded_W1 listappend a r0 r1 I0 M0 I1 M1 h0 h1 (([] : List Edge), 0) h)
    · have h := h.2 c3
      have g_15 := (abt (bne_t c3))
      rw [h.1, h.2]
      exact sr (ids := []) (vs := [.nil, int check1]) (mem := []) (e_12 (d11 g_15 az)) (by kernel_rfl) (by kernel_rfl) (rts_nilfr (rts_sc rfl))
theorem grade_Graded_W (listappend : Piece) (a : Int) (r0 : List Edge) (r1 : Int) (I0 : Int → Prop) (M0 : Int → Nat) (I1 : (List Edge) → Int → Prop) (M1 : (List Edge) → Int → Nat) (h : grade_Graded_V listappend a r0 r1 I0 M0 I1 M1) (h0 : ∀ (v34 : Int), I0 v34 → grade_Graded_V0 listappend a r0 r1 I0 M0 I1 M1 v34) (h1 : ∀ (v10 : List Edge) (v53 : Int), I1 v10 v53 → grade_Graded_V1 listappend a r0 r1 I0 M0 I1 M1 v10 v53) : Ret Tryd.prog XS 20 [.agg [str listappend.name, .sl 2 (listappend.edges.map cEdge), int listappend.grain, .sl 2 (listappend.notches.map cNotch), .sl 2 (listappend.corners.map cSpot), .sl 1 (listappend.widths.map cI), boo listappend.match_], int a] (.tup [.fr 2 (r0.map cEdge), int r1]) := by
  refine fn_rule Tryd.func20 (by kernel_rfl) (by kernel_rfl) (by kernel_rfl) (by kernel_rfl) ?_
  by_cases c1 : a < (-100)
  · have h := h.1 c1
    have g_16 := (abt (dec_t c1))
    rw [h.1, h.2]
    exact sr (ids := []) (vs := [.nil, int 3]) (mem := []) (d11 g_16 (d11 g_16 (d11 g_16 (d11 abtt az)))) (by kernel_rfl) (by kernel_rfl) (rts_nilfr (rts_sc rfl))
  · have h := h.2 c1
    have g_17 := (abf (dec_f c1))
    have e_18 := fun {o : Orc} {q : List Prop} (r : At o q) => (d11 g_17 (d11 g_17 (d11 g_17 r)))
    by_cases c2 : a > 100
    · have h := h.1 c2
      rw [h.1, h.2]
      exact sr (ids := []) (vs := [.nil, int 3]) (mem := []) (e_18 (d11 (abt (dec_t c2)) az)) (by kernel_rfl) (by kernel_rfl) (rts_nilfr (rts_sc rfl))
    · have h := h.2 c2
      have g_19 := (olen cSpot Tryd.prog 29 2 listappend.corners (by kernel_rfl))
      have g_20 := (olen cEdge Tryd.prog 56 2 listappend.edges (by kernel_rfl))
      have e_21 := fun {o : Orc} {q : List Prop} (r : At o q) => (d11 (abf (dec_f c2)) (d11 g_19 (d11 g_20 r)))
      by_cases c3 : ((listappend.corners.length : Nat) : Int) = ((listappend.edges.length : Nat) : Int)
      · have h := h.1 c3
        have g_22 := (abf (bne_f c3))
        exact sl (ts := [1, 2, 32, 33, 34]) (ids := [0]) (d := 0) (s0 := ⟨[(1, int a), (2, .ptr 0 0 0), (32, .sl 2 (listappend.corners.map cSpot)), (33, int ((listappend.corners.length : Nat) : Int)), (34, int 0)], [(0, .box [str listappend.name, .sl 2 (listappend.edges.map cEdge), int listappend.grain, .sl 2 (listappend.notches.map cNotch), .sl 2 (listappend.corners.map cSpot), .sl 1 (listappend.widths.map cI), boo listappend.match_])], 1⟩) (e_18 (e_21 (d11 g_22 (d11 g_19 az)))) (by kernel_rfl) (by kernel_rfl) (Weak.anew [(0, some 0)] (by rfl) (wt_cons rfl wk_sc (wt_cons rfl (wk_ptr rfl) (wt_cons rfl wk_sl (wt_cons rfl wk_sc (wt_cons rfl wk_sc wt_nil))))) (wm_box rfl rfl (wl_cons wk_sc (wl_cons wk_sl (wl_cons wk_sc (wl_cons wk_sl (wl_cons wk_sl (wl_cons wk_sl (wl_cons wk_sc wl_nil))))))) wm_nil)) (grade_Graded_W0 listappend a r0 r1 I0 M0 I1 M1 h0 h1 0 h)
      · have h := h.2 c3
        have g_23 := (abt (bne_t c3))
        rw [h.1, h.2]
        exact sr (ids := []) (vs := [.nil, int 1]) (mem := []) (e_18 (e_21 (d11 g_23 az))) (by kernel_rfl) (by kernel_rfl) (rts_nilfr (rts_sc rfl))

-- grade.shifted
abbrev grade_shifted_V (s0 : Spot) (r0 : Bool) : Prop := ((s0.x ≥ (-1000) → ((s0.x ≤ 1000 → ((s0.y ≥ (-1000) → r0 = (decide (s0.y ≤ 1000))) ∧ (¬ (s0.y ≥ (-1000)) → r0 = false))) ∧ (¬ (s0.x ≤ 1000) → r0 = false))) ∧ (¬ (s0.x ≥ (-1000)) → r0 = false))
theorem grade_shifted_W (s0 : Spot) (r0 : Bool) (h : grade_shifted_V s0 r0) : Ret Tryd.prog XS 32 [.agg [int s0.x, int s0.y]] (boo r0) := by
  refine fn_rule Tryd.func32 (by kernel_rfl) (by kernel_rfl) (by kernel_rfl) (by kernel_rfl) ?_
  by_cases c1 : s0.x ≥ (-1000)
  · have h := h.1 c1
    have g_1 := (abt (dec_t c1))
    have e_2 := fun {o : Orc} {q : List Prop} (r : At o q) => (d11 g_1 (d11 g_1 (d11 g_1 (d11 g_1 r))))
    by_cases c2 : s0.x ≤ 1000
    · have h := h.1 c2
      have g_3 := (abt (dec_t c2))
      have e_4 := fun {o : Orc} {q : List Prop} (r : At o q) => (d11 g_3 (d11 g_3 (d11 g_3 (d11 g_3 r))))
      by_cases c3 : s0.y ≥ (-1000)
      · have h := h.1 c3
        have g_5 := (abt (dec_t c3))
        rw [h]
        exact sr (ids := []) (vs := [boo (decide (s0.y ≤ 1000))]) (mem := []) (e_2 (e_4 (d11 g_5 (d11 g_5 (d11 g_5 (d11 g_5 az)))))) (by kernel_rfl) (by kernel_rfl) (rts_sc rfl)
      · have h := h.2 c3
        have g_6 := (abf (dec_f c3))
        rw [h]
        exact sr (ids := []) (vs := [boo false]) (mem := []) (e_2 (e_4 (d11 g_6 (d11 g_6 (d11 g_6 (d11 g_6 az)))))) (by kernel_rfl) (by kernel_rfl) (rts_sc rfl)
    · have h := h.2 c2
      have g_7 := (abf (dec_f c2))
      rw [h]
      exact sr (ids := []) (vs := [boo false]) (mem := []) (e_2 (d11 g_7 (d11 g_7 (d11 g_7 (d11 g_7 (d11 abff (d11 abff (d11 abff (d11 abff az))))))))) (by kernel_rfl) (by kernel_rfl) (rts_sc rfl)
  · have h := h.2 c1
    have g_8 := (abf (dec_f c1))
    rw [h]
    exact sr (ids := []) (vs := [boo false]) (mem := []) (d11 g_8 (d11 g_8 (d11 g_8 (d11 g_8 (d11 abff (d11 abff (d11 abff (d11 abff (d11 abff (d11 abff (d11 abff (d11 abff az)))))))))))) (by kernel_rfl) (by kernel_rfl) (rts_sc rfl)

end Go.Ab
end
