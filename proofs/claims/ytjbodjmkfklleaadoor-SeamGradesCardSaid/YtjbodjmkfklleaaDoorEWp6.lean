/- A part of the proof. Conditions: those of each theorem. -/
import Derived.Test.YtjbodjmkfklleaaDoorETy
import Derived.Test.YtjbodjmkfklleaaDoorEX
set_option linter.unusedVariables false
set_option linter.unusedSimpArgs false
set_option linter.unusedSectionVars false

section
namespace Go.Ab
open Go.Proofs
set_option maxRecDepth 1000000
set_option linter.unusedVariables false
attribute [local irreducible] todoQ
-- (polygon.side).meets
abbrev polygon_side_meets_V (s0 : PolygonSide) (t1 : PolygonSide) (r0 : Bool) : Prop := (∃ (holds1 : Bool), Ret Tryd.prog XS 57 [.agg [int s0.a.x, int s0.a.y, int s0.b.x, int s0.b.y], .agg [int t1.a.x, int t1.a.y]] (boo holds1) ∧ ((holds1 = true → r0 = true) ∧ (holds1 = false → (∃ (holds2 : Bool), Ret Tryd.prog XS 57 [.agg [int s0.a.x, int s0.a.y, int s0.b.x, int s0.b.y], .agg [int t1.b.x, int t1.b.y]] (boo holds2) ∧ ((holds2 = true → r0 = true) ∧ (holds2 = false → (∃ (holds3 : Bool), Ret Tryd.prog XS 57 [.agg [int t1.a.x, int t1.a.y, int t1.b.x, int t1.b.y], .agg [int s0.a.x, int s0.a.y]] (boo holds3) ∧ ((holds3 = true → r0 = true) ∧ (holds3 = false → (∃ (holds4 : Bool), Ret Tryd.prog XS 57 [.agg [int t1.a.x, int t1.a.y, int t1.b.x, int t1.b.y], .agg [int s0.b.x, int s0.b.y]] (boo holds4) ∧ ((holds4 = true → r0 = true) ∧ (holds4 = false → (∃ (divides5 : Bool), Ret Tryd.prog XS 63 [.agg [int s0.a.x, int s0.a.y, int s0.b.x, int s0.b.y], .agg [int t1.a.x, int t1.a.y], .agg [int t1.b.x, int t1.b.y]] (boo divides5) ∧ ((divides5 = true → (∃ (divides6 : Bool), Ret Tryd.prog XS 63 [.agg [int t1.a.x, int t1.a.y, int t1.b.x, int t1.b.y], .agg [int s0.a.x, int s0.a.y], .agg [int s0.b.x, int s0.b.y]] (boo divides6) ∧ r0 = divides6)) ∧ (divides5 = false → r0 = false)))))))))))))))
theorem polygon_side_meets_W (s0 : PolygonSide) (t1 : PolygonSide) (r0 : Bool) (h : polygon_side_meets_V s0 t1 r0) : Ret Tryd.prog XS 58 [.agg [int s0.a.x, int s0.a.y, int s0.b.x, int s0.b.y], .agg [int t1.a.x, int t1.a.y, int t1.b.x, int t1.b.y]] (boo r0) := by
  refine fn_rule Tryd.func58 (by kernel_rfl) (by kernel_rfl) (by kernel_rfl) (by kernel_rfl) ?_
  obtain ⟨holds1, c1, h⟩ := h
  have e_1 := fun {o : Orc} {q : List Prop} (r : At o q) => (d11 (ocs c1) r)
  rcases Bool.eq_false_or_eq_true holds1 with c2 | c2
  · have h := h.1 c2
    rw [h]
    exact sr (ids := []) (vs := [boo true]) (mem := []) (e_1 (d11 (abt c2) (d11 (abt c2) (d11 (abt c2) (d11 (abt c2) (d11 (abt c2) (d11 abtt (d11 abtt (d11 abtt (d11 abtt (d11 abtt (d11 abtt (d11 abtt (d11 abtt (d11 abtt (d11 abtt (d11 abtt (d11 abtt (d11 abtt (d11 abtt (d11 abtt (d11 abtt (d11 abtt (d11 abtt (d11 abtt az))))))))))))))))))))))))) (by kernel_rfl) (by kernel_rfl) (rts_sc rfl)
  · have h := h.2 c2
    obtain ⟨holds2, c3, h⟩ := h
    have e_2 := fun {o : Orc} {q : List Prop} (r : At o q) => (d11 (abf c2) (d11 (abf c2) (d11 (abf c2) (d11 (abf c2) (d11 (ocs c3) (d11 (abf c2) r))))))
    rcases Bool.eq_false_or_eq_true holds2 with c4 | c4
    · have h := h.1 c4
      rw [h]
      exact sr (ids := []) (vs := [boo true]) (mem := []) (e_1 (e_2 (d11 (abt c4) (d11 (abt c4) (d11 (abt c4) (d11 (abt c4) (d11 (abt c4) (d11 abtt (d11 abtt (d11 abtt (d11 abtt (d11 abtt (d11 abtt (d11 abtt (d11 abtt (d11 abtt (d11 abtt (d11 abtt (d11 abtt (d11 abtt (d11 abtt az))))))))))))))))))))) (by kernel_rfl) (by kernel_rfl) (rts_sc rfl)
    · have h := h.2 c4
      obtain ⟨holds3, c5, h⟩ := h
      have e_3 := fun {o : Orc} {q : List Prop} (r : At o q) => (d11 (abf c4) (d11 (abf c4) (d11 (abf c4) (d11 (abf c4) (d11 (ocs c5) (d11 (abf c4) r))))))
      rcases Bool.eq_false_or_eq_true holds3 with c6 | c6
      · have h := h.1 c6
        rw [h]
        exact sr (ids := []) (vs := [boo true]) (mem := []) (e_1 (e_2 (e_3 (d11 (abt c6) (d11 (abt c6) (d11 (abt c6) (d11 (abt c6) (d11 (abt c6) (d11 abtt (d11 abtt (d11 abtt (d11 abtt (d11 abtt (d11 abtt (d11 abtt (d11 abtt (d11 abtt az))))))))))))))))) (by kernel_rfl) (by kernel_rfl) (rts_sc rfl)
      · have h := h.2 c6
        obtain ⟨holds4, c7, h⟩ := h
        have e_4 := fun {o : Orc} {q : List Prop} (r : At o q) => (d11 (abf c6) (d11 (abf c6) (d11 (abf c6) (d11 (abf c6) (d11 (ocs c7) (d11 (abf c6) r))))))
        rcases Bool.eq_false_or_eq_true holds4 with c8 | c8
        · have h := h.1 c8
          rw [h]
          exact sr (ids := []) (vs := [boo true]) (mem := []) (e_1 (e_2 (e_3 (e_4 (d11 (abt c8) (d11 (abt c8) (d11 (abt c8) (d11 (abt c8) (d11 (abt c8) (d11 (abt c8) (d11 (abt c8) (d11 (abt c8) (d11 (abt c8) az))))))))))))) (by kernel_rfl) (by kernel_rfl) (rts_sc rfl)
        · have h := h.2 c8
          obtain ⟨divides5, c9, h⟩ := h
          have e_5 := fun {o : Orc} {q : List Prop} (r : At o q) => (d11 (abf c8) (d11 (abf c8) (d11 (abf c8) (d11 (abf c8) (d11 (abf c8) (d11 (abf c8) (d11 (ocs c9) (d11 (abf c8) r))))))))
          rcases Bool.eq_false_or_eq_true divides5 with c10 | c10
          · have h := h.1 c10
            obtain ⟨divides6, c11, h⟩ := h
            rw [h]
            exact sr (ids := []) (vs := [boo divides6]) (mem := []) (e_1 (e_2 (e_3 (e_4 (e_5 (d11 (abt c10) (d11 (abt c10) (d11 (abt c10) (d11 (abt c10) (d11 (abt c10) (d11 (abt c10) (d11 (ocs c11) (d11 (abf c8) (d11 (abt c10) (d11 (abf c8) az))))))))))))))) (by kernel_rfl) (by kernel_rfl) (rts_sc rfl)
          · have h := h.2 c10
            rw [h]
            exact sr (ids := []) (vs := [boo false]) (mem := []) (e_1 (e_2 (e_3 (e_4 (e_5 (d11 (abf c10) (d11 (abf c10) (d11 (abf c10) (d11 (abf c10) (d11 (abf c10) (d11 (abf c10) (d11 (abf c8) (d11 (abf c10) (d11 (abf c8) az)))))))))))))) (by kernel_rfl) (by kernel_rfl) (rts_sc rfl)

-- (polygon.side).divides
abbrev polygon_side_divides_V (s0 : PolygonSide) (p : Spot) (q : Spot) (r0 : Bool) : Prop := (∃ (turn1 : Int), Ret Tryd.prog XS 61 [.agg [int s0.a.x, int s0.a.y], .agg [int s0.b.x, int s0.b.y], .agg [int p.x, int p.y]] (int turn1) ∧ (∃ (turn2 : Int), Ret Tryd.prog XS 61 [.agg [int s0.a.x, int s0.a.y], .agg [int s0.b.x, int s0.b.y], .agg [int q.x, int q.y]] (int turn2) ∧ ((turn1 < 0 → ((turn2 > 0 → r0 = true) ∧ (¬ (turn2 > 0) → ((turn1 > 0 → r0 = (decide (turn2 < 0))) ∧ (¬ (turn1 > 0) → r0 = false))))) ∧ (¬ (turn1 < 0) → ((turn1 > 0 → r0 = (decide (turn2 < 0))) ∧ (¬ (turn1 > 0) → r0 = false))))))
theorem polygon_side_divides_W (s0 : PolygonSide) (p : Spot) (q : Spot) (r0 : Bool) (h : polygon_side_divides_V s0 p q r0) : Ret Tryd.prog XS 63 [.agg [int s0.a.x, int s0.a.y, int s0.b.x, int s0.b.y], .agg [int p.x, int p.y], .agg [int q.x, int q.y]] (boo r0) := by
  refine fn_rule Tryd.func63 (by kernel_rfl) (by kernel_rfl) (by kernel_rfl) (by kernel_rfl) ?_
  obtain ⟨turn1, c1, turn2, c2, h⟩ := h
  have e_1 := fun {o : Orc} {q : List Prop} (r : At o q) => (d11 (ocs c1) (d11 (ocs c2) r))
  by_cases c3 : turn1 < 0
  · have h := h.1 c3
    have g_2 := (abt (dec_t c3))
    have e_3 := fun {o : Orc} {q : List Prop} (r : At o q) => (d11 g_2 (d11 g_2 (d11 g_2 r)))
    by_cases c4 : turn2 > 0
    · have h := h.1 c4
      have g_4 := (abt (dec_t c4))
      rw [h]
      exact sr (ids := []) (vs := [boo true]) (mem := []) (e_1 (e_3 (d11 g_4 (d11 g_4 (d11 g_4 (d11 g_4 (d11 g_4 az))))))) (by kernel_rfl) (by kernel_rfl) (rts_sc rfl)
    · have h := h.2 c4
      have g_5 := (abf (dec_f c4))
      have e_6 := fun {o : Orc} {q : List Prop} (r : At o q) => (d11 g_5 (d11 g_5 (d11 g_5 r)))
      by_cases c5 : turn1 > 0
      · have h := h.1 c5
        have g_7 := (abt (dec_t c5))
        rw [h]
        exact sr (ids := []) (vs := [boo (decide (turn2 < 0))]) (mem := []) (e_1 (e_3 (e_6 (d11 g_7 (d11 g_7 (d11 g_5 (d11 g_7 (d11 g_5 az)))))))) (by kernel_rfl) (by kernel_rfl) (rts_sc rfl)
      · have h := h.2 c5
        have g_8 := (abf (dec_f c5))
        rw [h]
        exact sr (ids := []) (vs := [boo false]) (mem := []) (e_1 (e_3 (e_6 (d11 g_8 (d11 g_8 (d11 g_5 (d11 g_8 (d11 g_5 az)))))))) (by kernel_rfl) (by kernel_rfl) (rts_sc rfl)
  · have h := h.2 c3
    have g_9 := (abf (dec_f c3))
    have e_10 := fun {o : Orc} {q : List Prop} (r : At o q) => (d11 g_9 (d11 g_9 (d11 g_9 (d11 abff (d11 abff (d11 abff r))))))
    by_cases c4 : turn1 > 0
    · have h := h.1 c4
      have g_11 := (abt (dec_t c4))
      rw [h]
      exact sr (ids := []) (vs := [boo (decide (turn2 < 0))]) (mem := []) (e_1 (e_10 (d11 g_11 (d11 g_11 (d11 abff (d11 g_11 (d11 abff az))))))) (by kernel_rfl) (by kernel_rfl) (rts_sc rfl)
    · have h := h.2 c4
      have g_12 := (abf (dec_f c4))
      rw [h]
      exact sr (ids := []) (vs := [boo false]) (mem := []) (e_1 (e_10 (d11 g_12 (d11 g_12 (d11 abff (d11 g_12 (d11 abff az))))))) (by kernel_rfl) (by kernel_rfl) (rts_sc rfl)

-- (grade.times).move
abbrev grade_times_move_V (m : Int) (s1 : Spot) (r0 : Spot) : Prop := (InR (m * s1.x)) ∧ (InR (m * s1.y)) ∧ r0 = (⟨(m * s1.x), (m * s1.y)⟩ : Spot)
theorem grade_times_move_W (m : Int) (s1 : Spot) (r0 : Spot) (h : grade_times_move_V m s1 r0) : Ret Tryd.prog XS 34 [int m, .agg [int s1.x, int s1.y]] (.agg [int r0.x, int r0.y]) := by
  refine fn_rule Tryd.func34 (by kernel_rfl) (by kernel_rfl) (by kernel_rfl) (by kernel_rfl) ?_
  obtain ⟨c1, c2, h⟩ := h
  rw [h]
  exact sr (ids := []) (vs := [.agg [int (m * s1.x), int (m * s1.y)]]) (mem := []) (d11 (omul Tryd.prog 3 (wi64 c1)) (d11 (omul Tryd.prog 3 (wi64 c2)) az)) (by kernel_rfl) (by kernel_rfl) (rts_agg (rcs_sc (rcs_sc (rcs_nil rfl))))

-- grade.along
def grade_along_S0 (l : List Spot) (a : Spot) (b : Spot) (v19 : Int) (w8 : List Spot) : AS := ⟨[(4, .ptr 0 0 0), (5, .ptr 1 0 0), (7, int (((l.length : Nat) : Int) - 1)), (8, .own 2 0 w8.length), (17, .sl 2 (l.map cSpot)), (18, int ((l.length : Nat) : Int)), (19, int v19)], [(0, .box [int a.x, int a.y]), (1, .box [int b.x, int b.y]), (2, .row 2 (w8.map cSpot))], 3⟩
abbrev grade_along_V (l : List Spot) (a : Spot) (b : Spot) (r0 : List Spot) (I0 : Int → (List Spot) → Prop) (M0 : Int → (List Spot) → Nat) : Prop := (InR (((l.length : Nat) : Int) - 1)) ∧ (0 ≤ ((l.length : Nat) : Int)) ∧ (((l.length : Nat) : Int) * 16 ≤ 140737488355328) ∧ (((l.length : Nat) : Int) ≤ 9223372036854775807) ∧ I0 0 (List.replicate (((l.length : Nat) : Int) : Int).toNat (⟨0, 0⟩ : Spot))
abbrev grade_along_V0 (l : List Spot) (a : Spot) (b : Spot) (r0 : List Spot) (I0 : Int → (List Spot) → Prop) (M0 : Int → (List Spot) → Nat) (v19 : Int) (w8 : List Spot) : Prop := ((v19 < ((l.length : Nat) : Int) → (Idx v19 l.length) ∧ (InR ((((l.length : Nat) : Int) - 1) - v19)) ∧ (InR (((((l.length : Nat) : Int) - 1) - v19) * a.x)) ∧ (InR (v19 * b.x)) ∧ (InR ((((((l.length : Nat) : Int) - 1) - v19) * a.x) + (v19 * b.x))) ∧ (∃ (share1 : Int), Ret Tryd.prog XS 44 [int ((((((l.length : Nat) : Int) - 1) - v19) * a.x) + (v19 * b.x)), int (((l.length : Nat) : Int) - 1)] (int share1) ∧ (InR ((ai l v19).x + share1)) ∧ (InR (((((l.length : Nat) : Int) - 1) - v19) * a.y)) ∧ (InR (v19 * b.y)) ∧ (InR ((((((l.length : Nat) : Int) - 1) - v19) * a.y) + (v19 * b.y))) ∧ (∃ (share2 : Int), Ret Tryd.prog XS 44 [int ((((((l.length : Nat) : Int) - 1) - v19) * a.y) + (v19 * b.y)), int (((l.length : Nat) : Int) - 1)] (int share2) ∧ (InR ((ai l v19).y + share2)) ∧ (Idx v19 w8.length) ∧ (InR (v19 + 1)) ∧ I0 (v19 + 1) (w8.set (v19 : Int).toNat (⟨((ai l v19).x + share1), ((ai l v19).y + share2)⟩ : Spot)) ∧ M0 (v19 + 1) (w8.set (v19 : Int).toNat (⟨((ai l v19).x + share1), ((ai l v19).y + share2)⟩ : Spot)) < M0 v19 w8))) ∧ (¬ (v19 < ((l.length : Nat) : Int)) → r0 = w8))
theorem grade_along_W0 (l : List Spot) (a : Spot) (b : Spot) (r0 : List Spot) (I0 : Int → (List Spot) → Prop) (M0 : Int → (List Spot) → Nat) (h0 : ∀ (v19 : Int) (w8 : List Spot), I0 v19 w8 → grade_along_V0 l a b r0 I0 M0 v19 w8) : ∀ (x : Int × (List Spot)), I0 x.1 x.2 → loopQ Tryd.prog XS Tryd.f35 0 (.fr 2 (r0.map cSpot)) [] (grade_along_S0 l a b x.1 x.2) := by
  intro x0 hx0
  refine loop_rule (fun (x : Int × (List Spot)) => I0 x.1 x.2) (fun (x : Int × (List Spot)) => M0 x.1 x.2) (fun (x : Int × (List Spot)) => grade_along_S0 l a b x.1 x.2) x0 hx0 ?_
  rintro ⟨v19, w8⟩ hx
  have h := h0 v19 w8 hx
  clear hx hx0 x0
  by_cases c1 : v19 < ((l.length : Nat) : Int)
  · have h := h.1 c1
    obtain ⟨c2, c3, c4, c5, c6, share1, c7, c8, c9, c10, c11, share2, c12, c13, c14, c15, h⟩ := h
    have g_1 := (osub Tryd.prog 3 (wi64 c3))
    exact sb (ts := [4, 5, 7, 8, 17, 18, 19]) (ids := [0, 1, 2]) (d := 0) (s0 := ⟨[(4, .ptr 0 0 0), (5, .ptr 1 0 0), (7, int (((l.length : Nat) : Int) - 1)), (8, .own 2 0 w8.length), (17, .sl 2 (l.map cSpot)), (18, int ((l.length : Nat) : Int)), (19, int (v19 + 1))], [(0, .box [int a.x, int a.y]), (1, .box [int b.x, int b.y]), (2, .row 2 ((w8.set (v19 : Int).toNat (⟨((ai l v19).x + share1), ((ai l v19).y + share2)⟩ : Spot)).map cSpot))], 4⟩) (d11 (abt (dec_t c1)) (d11 (oidx cSpot c2) (d11 g_1 (d11 (omul Tryd.prog 3 (wi64 c4)) (d11 (omul Tryd.prog 3 (wi64 c5)) (d11 (oadd Tryd.prog 3 (wi64 c6)) (d11 (ocs c7) (d11 (oadd Tryd.prog 3 (wi64 c8)) (d11 g_1 (d11 (omul Tryd.prog 3 (wi64 c9)) (d11 (omul Tryd.prog 3 (wi64 c10)) (d11 (oadd Tryd.prog 3 (wi64 c11)) (d11 (ocs c12) (d11 (oadd Tryd.prog 3 (wi64 c13)) (d01 (oown cSpot (n := w8.length) rfl c14) (d21 (oset cSpot (⟨((ai l v19).x + share1), ((ai l v19).y + share2)⟩ : Spot) c14) (d11 (oadd Tryd.prog 3 (wi64 c15)) az))))))))))))))))) (by kernel_rfl) (by kernel_rfl) rfl ((v19 + 1), (w8.set (v19 : Int).toNat (⟨((ai l v19).x + share1), ((ai l v19).y + share2)⟩ : Spot))) h.1 h.2 (Weak.anew [(0, some 0), (1, some 1), (2, some 2)] (by rfl) (wt_cons rfl (wk_ptr rfl) (wt_cons rfl (wk_ptr rfl) (wt_cons rfl wk_sc (wt_cons rfl (wk_own rfl (by simp)) (wt_cons rfl wk_sl (wt_cons rfl wk_sc (wt_cons rfl wk_sc wt_nil))))))) (wm_box rfl rfl (wl_cons wk_sc (wl_cons wk_sc wl_nil)) (wm_box rfl rfl (wl_cons wk_sc (wl_cons wk_sc wl_nil)) (wm_row rfl rfl wm_nil))))
  · have h := h.2 c1
    rw [h]
    exact sr (ids := [2]) (vs := [.own 2 0 w8.length]) (mem := [(2, .row 2 (w8.map cSpot))]) (d11 (abf (dec_f c1)) az) (by kernel_rfl) (by kernel_rfl) (rts_own rfl rfl rfl rfl)
theorem grade_along_W (l : List Spot) (a : Spot) (b : Spot) (r0 : List Spot) (I0 : Int → (List Spot) → Prop) (M0 : Int → (List Spot) → Nat) (h : grade_along_V l a b r0 I0 M0) (h0 : ∀ (v19 : Int) (w8 : List Spot), I0 v19 w8 → grade_along_V0 l a b r0 I0 M0 v19 w8) : Ret Tryd.prog XS 35 [.sl 2 (l.map cSpot), .agg [int a.x, int a.y], .agg [int b.x, int b.y]] (.fr 2 (r0.map cSpot)) := by
  refine fn_rule Tryd.func35 (by kernel_rfl) (by kernel_rfl) (by kernel_rfl) (by kernel_rfl) ?_
  obtain ⟨c1, c2, c3, c4, h⟩ := h
  have g_2 := (olen cSpot Tryd.prog 29 2 l (by kernel_rfl))
  exact sl (ts := [4, 5, 7, 8, 17, 18, 19]) (ids := [0, 1, 2]) (d := 0) (s0 := ⟨[(4, .ptr 0 0 0), (5, .ptr 1 0 0), (7, int (((l.length : Nat) : Int) - 1)), (8, .own 2 0 ((List.replicate (((l.length : Nat) : Int) : Int).toNat (⟨0, 0⟩ : Spot)).length)), (17, .sl 2 (l.map cSpot)), (18, int ((l.length : Nat) : Int)), (19, int 0)], [(0, .box [int a.x, int a.y]), (1, .box [int b.x, int b.y]), (2, .row 2 ((List.replicate (((l.length : Nat) : Int) : Int).toNat (⟨0, 0⟩ : Spot)).map cSpot))], 3⟩) (d11 g_2 (d11 (osub Tryd.prog 3 (wi64 c1)) (d11 g_2 (d11 (omake cSpot (v := (⟨0, 0⟩ : Spot)) (z := [int 0, int 0]) (l := ((l.length : Nat) : Int)) (b := 16) rfl c2 c3 c4) (d11 g_2 az))))) (by kernel_rfl) (by kernel_rfl) (Weak.anew [(0, some 0), (1, some 1), (2, some 2)] (by rfl) (wt_cons rfl (wk_ptr rfl) (wt_cons rfl (wk_ptr rfl) (wt_cons rfl wk_sc (wt_cons rfl (wk_own rfl rfl) (wt_cons rfl wk_sl (wt_cons rfl wk_sc (wt_cons rfl wk_sc wt_nil))))))) (wm_box rfl rfl (wl_cons wk_sc (wl_cons wk_sc wl_nil)) (wm_box rfl rfl (wl_cons wk_sc (wl_cons wk_sc wl_nil)) (wm_row rfl rfl wm_nil)))) (grade_along_W0 l a b r0 I0 M0 h0 (0, (List.replicate (((l.length : Nat) : Int) : Int).toNat (⟨0, 0⟩ : Spot))) h)

-- grade.share
abbrev grade_share_V (n : Int) (s1 : Int) (r0 : Int) : Prop := ((n < 0 → (InR (-n)) ∧ (∃ (share1 : Int), Ret Tryd.prog XS 44 [int (-n), int s1] (int share1) ∧ (InR (-share1)) ∧ r0 = (-share1))) ∧ (¬ (n < 0) → (InR (2 * n)) ∧ (InR ((2 * n) + s1)) ∧ (InR (2 * s1)) ∧ ((2 * s1) ≠ 0) ∧ (InR (((2 * n) + s1).tdiv (2 * s1))) ∧ r0 = (((2 * n) + s1).tdiv (2 * s1))))
theorem grade_share_W (n : Int) (s1 : Int) (r0 : Int) (h : grade_share_V n s1 r0) : Ret Tryd.prog XS 44 [int n, int s1] (int r0) := by
  refine fn_rule Tryd.func44 (by kernel_rfl) (by kernel_rfl) (by kernel_rfl) (by kernel_rfl) ?_
  by_cases c1 : n < 0
  · have h := h.1 c1
    obtain ⟨c2, share1, c3, c4, h⟩ := h
    rw [h]
    exact sr (ids := []) (vs := [int (-share1)]) (mem := []) (d11 (abt (dec_t c1)) (d11 (oneg (wi64 c2)) (d11 (ocs c3) (d11 (oneg (wi64 c4)) az)))) (by kernel_rfl) (by kernel_rfl) (rts_sc rfl)
  · have h := h.2 c1
    obtain ⟨c2, c3, c4, c5, c6, h⟩ := h
    rw [h]
    exact sr (ids := []) (vs := [int (((2 * n) + s1).tdiv (2 * s1))]) (mem := []) (d11 (abf (dec_f c1)) (d11 (omul Tryd.prog 3 (wi64 c2)) (d11 (oadd Tryd.prog 3 (wi64 c3)) (d11 (omul Tryd.prog 3 (wi64 c4)) (d11 (oquo Tryd.prog 3 c5 (wi64 c6)) az))))) (by kernel_rfl) (by kernel_rfl) (rts_sc rfl)

-- polyline.Length
def polyline_Length_S0 (l : List Spot) (n5 : Int) (i6 : Int) : AS := ⟨[(0, .sl 2 (l.map cSpot)), (5, int n5), (6, int i6)], [], 0⟩
abbrev polyline_Length_V (l : List Spot) (r0 : Int) (r1 : Int) (I0 : Int → Int → Prop) (M0 : Int → Int → Nat) : Prop := (∃ (check1 : Int), Ret Tryd.prog XS 36 [.sl 2 (l.map cSpot)] (int check1) ∧ ((check1 = 0 → I0 0 1) ∧ (¬ (check1 = 0) → r0 = 0 ∧ r1 = check1)))
abbrev polyline_Length_V0 (l : List Spot) (r0 : Int) (r1 : Int) (I0 : Int → Int → Prop) (M0 : Int → Int → Nat) (n5 : Int) (i6 : Int) : Prop := ((i6 < ((l.length : Nat) : Int) → (InR (i6 - 1)) ∧ (Idx (i6 - 1) l.length) ∧ (Idx i6 l.length) ∧ (∃ (segment1 : Int), Ret Tryd.prog XS 37 [.agg [int ((ai l (i6 - 1)).x), int ((ai l (i6 - 1)).y)], .agg [int ((ai l i6).x), int ((ai l i6).y)]] (int segment1) ∧ (InR (n5 + segment1)) ∧ (InR (i6 + 1)) ∧ I0 (n5 + segment1) (i6 + 1) ∧ M0 (n5 + segment1) (i6 + 1) < M0 n5 i6)) ∧ (¬ (i6 < ((l.length : Nat) : Int)) → r0 = n5 ∧ r1 = 0))
theorem polyline_Length_W0 (l : List Spot) (r0 : Int) (r1 : Int) (I0 : Int → Int → Prop) (M0 : Int → Int → Nat) (h0 : ∀ (n5 : Int) (i6 : Int), I0 n5 i6 → polyline_Length_V0 l r0 r1 I0 M0 n5 i6) : ∀ (x : Int × Int), I0 x.1 x.2 → loopQ Tryd.prog XS Tryd.f22 0 (.tup [int r0, int r1]) [] (polyline_Length_S0 l x.1 x.2) := by
  intro x0 hx0
  refine loop_rule (fun (x : Int × Int) => I0 x.1 x.2) (fun (x : Int × Int) => M0 x.1 x.2) (fun (x : Int × Int) => polyline_Length_S0 l x.1 x.2) x0 hx0 ?_
  rintro ⟨n5, i6⟩ hx
  have h := h0 n5 i6 hx
  clear hx hx0 x0
  have e_1 := fun {o : Orc} {q : List Prop} (r : At o q) => (d11 (olen cSpot Tryd.prog 29 2 l (by kernel_rfl)) r)
  by_cases c1 : i6 < ((l.length : Nat) : Int)
  · have h := h.1 c1
    obtain ⟨c2, c3, c4, segment1, c5, c6, c7, h⟩ := h
    exact sb (ts := [0, 5, 6]) (ids := []) (d := 0) (s0 := ⟨[(0, .sl 2 (l.map cSpot)), (5, int (n5 + segment1)), (6, int (i6 + 1))], [], 0⟩) (e_1 (d11 (abt (dec_t c1)) (d11 (osub Tryd.prog 3 (wi64 c2)) (d11 (oidx cSpot c3) (d11 (oidx cSpot c4) (d11 (ocs c5) (d11 (oadd Tryd.prog 3 (wi64 c6)) (d11 (oadd Tryd.prog 3 (wi64 c7)) az)))))))) (by kernel_rfl) (by kernel_rfl) rfl ((n5 + segment1), (i6 + 1)) h.1 h.2 (Weak.anew [] (by rfl) (wt_cons rfl wk_sl (wt_cons rfl wk_sc (wt_cons rfl wk_sc wt_nil))) wm_nil)
  · have h := h.2 c1
    rw [h.1, h.2]
    exact sr (ids := []) (vs := [int n5, int 0]) (mem := []) (e_1 (d11 (abf (dec_f c1)) az)) (by kernel_rfl) (by kernel_rfl) (rts_sc (rts_sc rfl))
theorem polyline_Length_W (l : List Spot) (r0 : Int) (r1 : Int) (I0 : Int → Int → Prop) (M0 : Int → Int → Nat) (h : polyline_Length_V l r0 r1 I0 M0) (h0 : ∀ (n5 : Int) (i6 : Int), I0 n5 i6 → polyline_Length_V0 l r0 r1 I0 M0 n5 i6) : Ret Tryd.prog XS 22 [.sl 2 (l.map cSpot)] (.tup [int r0, int r1]) := by
  refine fn_rule Tryd.func22 (by kernel_rfl) (by kernel_rfl) (by kernel_rfl) (by kernel_rfl) ?_
  obtain ⟨check1, c1, h⟩ := h
  have e_2 := fun {o : Orc} {q : List Prop} (r : At o q) => (d11 (ocs c1) r)
  by_cases c2 : check1 = 0
  · have h := h.1 c2
    exact sl (ts := [0, 5, 6]) (ids := []) (d := 0) (s0 := ⟨[(0, .sl 2 (l.map cSpot)), (5, int 0), (6, int 1)], [], 0⟩) (e_2 (d11 (abf (bne_f c2)) az)) (by kernel_rfl) (by kernel_rfl) (Weak.anew [] (by rfl) (wt_cons rfl wk_sl (wt_cons rfl wk_sc (wt_cons rfl wk_sc wt_nil))) wm_nil) (polyline_Length_W0 l r0 r1 I0 M0 h0 (0, 1) h)
  · have h := h.2 c2
    rw [h.1, h.2]
    exact sr (ids := []) (vs := [int 0, int check1]) (mem := []) (e_2 (d11 (abt (bne_t c2)) az)) (by kernel_rfl) (by kernel_rfl) (rts_sc (rts_sc rfl))

-- polyline.segment
abbrev polyline_segment_V (p : Spot) (q : Spot) (r0 : Int) : Prop := (InR (q.x - p.x)) ∧ (InR (q.y - p.y)) ∧ (InR ((q.x - p.x) * (q.x - p.x))) ∧ (InR ((q.y - p.y) * (q.y - p.y))) ∧ (InR (((q.x - p.x) * (q.x - p.x)) + ((q.y - p.y) * (q.y - p.y)))) ∧ (InR (1000000 * (((q.x - p.x) * (q.x - p.x)) + ((q.y - p.y) * (q.y - p.y))))) ∧ (∃ (root1 : Int), Ret Tryd.prog XS 46 [int (1000000 * (((q.x - p.x) * (q.x - p.x)) + ((q.y - p.y) * (q.y - p.y))))] (int root1) ∧ r0 = root1)
theorem polyline_segment_W (p : Spot) (q : Spot) (r0 : Int) (h : polyline_segment_V p q r0) : Ret Tryd.prog XS 37 [.agg [int p.x, int p.y], .agg [int q.x, int q.y]] (int r0) := by
  refine fn_rule Tryd.func37 (by kernel_rfl) (by kernel_rfl) (by kernel_rfl) (by kernel_rfl) ?_
  obtain ⟨c1, c2, c3, c4, c5, c6, root1, c7, h⟩ := h
  rw [h]
  exact sr (ids := []) (vs := [int root1]) (mem := []) (d11 (osub Tryd.prog 3 (wi64 c1)) (d11 (osub Tryd.prog 3 (wi64 c2)) (d11 (omul Tryd.prog 3 (wi64 c3)) (d11 (omul Tryd.prog 3 (wi64 c4)) (d11 (oadd Tryd.prog 3 (wi64 c5)) (d11 (omul Tryd.prog 3 (wi64 c6)) (d11 (ocs c7) az))))))) (by kernel_rfl) (by kernel_rfl) (rts_sc rfl)

-- seam.Unfit
end Go.Ab
end

section
namespace Go.Ab
open Go.Proofs
set_option maxRecDepth 1000000
set_option linter.unusedVariables false
attribute [local irreducible] todoQ
-- seam.Congruent
def seam_Congruent_S0 (a : List Spot) (b : List Spot) (v26 : Int) : AS := ⟨[(0, .sl 2 (a.map cSpot)), (1, .sl 2 (b.map cSpot)), (4, .ptr 0 0 0), (5, .ptr 1 0 0), (26, int v26)], [(0, .box [boo false, int 0]), (1, .box [int 0, int 0])], 2⟩
def seam_Congruent_S1 (a : List Spot) (b : List Spot) (v26 : Int) (v39 : Int) (w9 : List Spot) : AS := ⟨[(0, .sl 2 (a.map cSpot)), (1, .sl 2 (b.map cSpot)), (4, .ptr 0 0 0), (5, .ptr 1 0 0), (8, .ptr 2 0 0), (9, .own 3 0 w9.length), (26, int v26), (37, .sl 2 (a.map cSpot)), (38, int ((a.length : Nat) : Int)), (39, int v39)], [(0, .box [boo false, int 0]), (1, .box [int 0, int 0]), (2, .box [boo (decide (v26 ≥ 4)), int (v26.tmod 4)]), (3, .row 2 (w9.map cSpot))], 4⟩
abbrev seam_Congruent_V (a : List Spot) (b : List Spot) (r0 : Turn) (r1 : Spot) (r2 : Bool) (I0 : Int → Prop) (M0 : Int → Nat) (I1 : Int → Int → (List Spot) → Prop) (M1 : Int → Int → (List Spot) → Nat) : Prop := ((((a.length : Nat) : Int) = 0 → r0 = (⟨false, 0⟩ : Turn) ∧ r1 = (⟨0, 0⟩ : Spot) ∧ r2 = false) ∧ (¬ (((a.length : Nat) : Int) = 0) → ((((a.length : Nat) : Int) = ((b.length : Nat) : Int) → I0 0) ∧ (¬ (((a.length : Nat) : Int) = ((b.length : Nat) : Int)) → r0 = (⟨false, 0⟩ : Turn) ∧ r1 = (⟨0, 0⟩ : Spot) ∧ r2 = false))))
abbrev seam_Congruent_V0 (a : List Spot) (b : List Spot) (r0 : Turn) (r1 : Spot) (r2 : Bool) (I0 : Int → Prop) (M0 : Int → Nat) (I1 : Int → Int → (List Spot) → Prop) (M1 : Int → Int → (List Spot) → Nat) (v26 : Int) : Prop := ((v26 < 8 → (0 ≤ ((a.length : Nat) : Int)) ∧ (((a.length : Nat) : Int) * 16 ≤ 140737488355328) ∧ (((a.length : Nat) : Int) ≤ 9223372036854775807) ∧ I1 v26 0 (List.replicate (((a.length : Nat) : Int) : Int).toNat (⟨0, 0⟩ : Spot))) ∧ (¬ (v26 < 8) → r0 = (⟨false, 0⟩ : Turn) ∧ r1 = (⟨0, 0⟩ : Spot) ∧ r2 = false))
abbrev seam_Congruent_V1 (a : List Spot) (b : List Spot) (r0 : Turn) (r1 : Spot) (r2 : Bool) (I0 : Int → Prop) (M0 : Int → Nat) (I1 : Int → Int → (List Spot) → Prop) (M1 : Int → Int → (List Spot) → Nat) (v26 : Int) (v39 : Int) (w9 : List Spot) : Prop := ((v39 < ((a.length : Nat) : Int) → (Idx v39 a.length) ∧ (∃ (apply1 : Spot), Ret Tryd.prog XS 21 [.agg [boo (decide (v26 ≥ 4)), int (v26.tmod 4)], .agg [int ((ai a v39).x), int ((ai a v39).y)]] (.agg [int apply1.x, int apply1.y]) ∧ (Idx v39 w9.length) ∧ (InR (v39 + 1)) ∧ I1 v26 (v39 + 1) (w9.set (v39 : Int).toNat apply1) ∧ M1 v26 (v39 + 1) (w9.set (v39 : Int).toNat apply1) < M1 v26 v39 w9)) ∧ (¬ (v39 < ((a.length : Nat) : Int)) → (∃ (move1a : Spot) (move1b : Bool), Ret Tryd.prog XS 28 [.sl 2 (w9.map cSpot), .sl 2 (b.map cSpot)] (.tup [.agg [int move1a.x, int move1a.y], boo move1b]) ∧ ((move1b = true → r0 = (⟨(decide (v26 ≥ 4)), (v26.tmod 4)⟩ : Turn) ∧ r1 = move1a ∧ r2 = true) ∧ (move1b = false → (InR (v26 + 1)) ∧ I0 (v26 + 1) ∧ M0 (v26 + 1) < M0 v26)))))
theorem seam_Congruent_W1 (a : List Spot) (b : List Spot) (r0 : Turn) (r1 : Spot) (r2 : Bool) (I0 : Int → Prop) (M0 : Int → Nat) (I1 : Int → Int → (List Spot) → Prop) (M1 : Int → Int → (List Spot) → Nat) (h0 : ∀ (v26 : Int), I0 v26 → seam_Congruent_V0 a b r0 r1 r2 I0 M0 I1 M1 v26) (h1 : ∀ (v26 : Int) (v39 : Int) (w9 : List Spot), I1 v26 v39 w9 → seam_Congruent_V1 a b r0 r1 r2 I0 M0 I1 M1 v26 v39 w9) (v26 : Int) : ∀ (x : Int × (List Spot)), I1 v26 x.1 x.2 → loopQ Tryd.prog XS Tryd.f13 1 (.tup [.agg [boo r0.flip, int r0.quarter], .agg [int r1.x, int r1.y], boo r2]) [backI (fun (x : Int) => I0 x) (fun (x : Int) => M0 x) (fun (x : Int) => seam_Congruent_S0 a b x) v26] (seam_Congruent_S1 a b v26 x.1 x.2) := by
  intro x0 hx0
  refine loop_rule (fun (x : Int × (List Spot)) => I1 v26 x.1 x.2) (fun (x : Int × (List Spot)) => M1 v26 x.1 x.2) (fun (x : Int × (List Spot)) => seam_Congruent_S1 a b v26 x.1 x.2) x0 hx0 ?_
  rintro ⟨v39, w9⟩ hx
  have h := h1 v26 v39 w9 hx
  clear hx hx0 x0
  by_cases c1 : v39 < ((a.length : Nat) : Int)
  · have h := h.1 c1
    obtain ⟨c2, apply1, c3, c4, c5, h⟩ := h
    have g_1 := (abt (dec_t c1))
    exact sb (ts := [0, 1, 4, 5, 8, 9, 26, 37, 38, 39]) (ids := [0, 1, 2, 3]) (d := 0) (s0 := ⟨[(0, .sl 2 (a.map cSpot)), (1, .sl 2 (b.map cSpot)), (4, .ptr 0 0 0), (5, .ptr 1 0 0), (8, .ptr 2 0 0), (9, .own 3 0 w9.length), (26, int v26), (37, .sl 2 (a.map cSpot)), (38, int ((a.length : Nat) : Int)), (39, int (v39 + 1))], [(0, .box [boo false, int 0]), (1, .box [int 0, int 0]), (2, .box [boo (decide (v26 ≥ 4)), int (v26.tmod 4)]), (3, .row 2 ((w9.set (v39 : Int).toNat apply1).map cSpot))], 5⟩) (d11 g_1 (d11 (oidx cSpot c2) (d11 (ocs c3) (d01 (oown cSpot (n := w9.length) rfl c4) (d21 (oset cSpot apply1 c4) (d11 (oadd Tryd.prog 3 (wi64 c5)) az)))))) (by kernel_rfl) (by kernel_rfl) rfl ((v39 + 1), (w9.set (v39 : Int).toNat apply1)) h.1 h.2 (Weak.anew [(0, some 0), (1, some 1), (2, some 2), (3, some 3)] (by rfl) (wt_cons rfl wk_sl (wt_cons rfl wk_sl (wt_cons rfl (wk_ptr rfl) (wt_cons rfl (wk_ptr rfl) (wt_cons rfl (wk_ptr rfl) (wt_cons rfl (wk_own rfl (by simp)) (wt_cons rfl wk_sc (wt_cons rfl wk_sl (wt_cons rfl wk_sc (wt_cons rfl wk_sc wt_nil)))))))))) (wm_box rfl rfl (wl_cons wk_sc (wl_cons wk_sc wl_nil)) (wm_box rfl rfl (wl_cons wk_sc (wl_cons wk_sc wl_nil)) (wm_box rfl rfl (wl_cons wk_sc (wl_cons wk_sc wl_nil)) (wm_row rfl rfl wm_nil)))))
  · have h := h.2 c1
    obtain ⟨move1a, move1b, c2, h⟩ := h
    have g_2 := (abf (dec_f c1))
    have e_3 := fun {o : Orc} {q : List Prop} (r : At o q) => (d11 g_2 (d12 (ocl [3] [(3, .row 2 (w9.map cSpot))] [.own 3 0 w9.length, .sl 2 (b.map cSpot)] (as_cons (at_row rfl rfl) (as_cons (ArgTo.same rfl) as_nil)) c2) r))
    rcases Bool.eq_false_or_eq_true move1b with c3 | c3
    · have h := h.1 c3
      rw [h.1, h.2.1, h.2.2]
      exact sr (ids := []) (vs := [.agg [boo (decide (v26 ≥ 4)), int (v26.tmod 4)], .agg [int move1a.x, int move1a.y], boo true]) (mem := []) (e_3 (d11 (abt c3) az)) (by kernel_rfl) (by kernel_rfl) (rts_agg (rcs_sc (rcs_sc (rcs_nil (rts_agg (rcs_sc (rcs_sc (rcs_nil (rts_sc rfl)))))))))
    · have h := h.2 c3
      obtain ⟨c4, h⟩ := h
      exact sb (ts := [0, 1, 4, 5, 26]) (ids := [0, 1]) (d := 1) (s0 := ⟨[(0, .sl 2 (a.map cSpot)), (1, .sl 2 (b.map cSpot)), (4, .ptr 0 0 0), (5, .ptr 1 0 0), (26, int (v26 + 1))], [(0, .box [boo false, int 0]), (1, .box [int 0, int 0])], 5⟩) (e_3 (d11 (abf c3) (d11 (oadd Tryd.prog 3 (wi64 c4)) az))) (by kernel_rfl) (by kernel_rfl) rfl (v26 + 1) h.1 h.2 (Weak.anew [(0, some 0), (1, some 1)] (by rfl) (wt_cons rfl wk_sl (wt_cons rfl wk_sl (wt_cons rfl (wk_ptr rfl) (wt_cons rfl (wk_ptr rfl) (wt_cons rfl wk_sc wt_nil))))) (wm_box rfl rfl (wl_cons wk_sc (wl_cons wk_sc wl_nil)) (wm_box rfl rfl (wl_cons wk_sc (wl_cons wk_sc wl_nil)) wm_nil)))
theorem seam_Congruent_W0 (a : List Spot) (b : List Spot) (r0 : Turn) (r1 : Spot) (r2 : Bool) (I0 : Int → Prop) (M0 : Int → Nat) (I1 : Int → Int → (List Spot) → Prop) (M1 : Int → Int → (List Spot) → Nat) (h0 : ∀ (v26 : Int), I0 v26 → seam_Congruent_V0 a b r0 r1 r2 I0 M0 I1 M1 v26) (h1 : ∀ (v26 : Int) (v39 : Int) (w9 : List Spot), I1 v26 v39 w9 → seam_Congruent_V1 a b r0 r1 r2 I0 M0 I1 M1 v26 v39 w9) : ∀ (x : Int), I0 x → loopQ Tryd.prog XS Tryd.f13 0 (.tup [.agg [boo r0.flip, int r0.quarter], .agg [int r1.x, int r1.y], boo r2]) [] (seam_Congruent_S0 a b x) := by
  intro x0 hx0
  refine loop_rule (fun (x : Int) => I0 x) (fun (x : Int) => M0 x) (fun (x : Int) => seam_Congruent_S0 a b x) x0 hx0 ?_
  intro v26 hx
  have h := h0 v26 hx
  clear hx hx0 x0
  by_cases c1 : v26 < 8
  · have h := h.1 c1
    obtain ⟨c2, c3, c4, h⟩ := h
    have g_4 := (abt (dec_t c1))
    have g_5 := (olen cSpot Tryd.prog 29 2 a (by kernel_rfl))
    exact sl (ts := [0, 1, 4, 5, 8, 9, 26, 37, 38, 39]) (ids := [0, 1, 2, 3]) (d := 0) (s0 := ⟨[(0, .sl 2 (a.map cSpot)), (1, .sl 2 (b.map cSpot)), (4, .ptr 0 0 0), (5, .ptr 1 0 0), (8, .ptr 2 0 0), (9, .own 3 0 ((List.replicate (((a.length : Nat) : Int) : Int).toNat (⟨0, 0⟩ : Spot)).length)), (26, int v26), (37, .sl 2 (a.map cSpot)), (38, int ((a.length : Nat) : Int)), (39, int 0)], [(0, .box [boo false, int 0]), (1, .box [int 0, int 0]), (2, .box [boo (decide (v26 ≥ 4)), int (v26.tmod 4)]), (3, .row 2 ((List.replicate (((a.length : Nat) : Int) : Int).toNat (⟨0, 0⟩ : Spot)).map cSpot))], 4⟩) (d11 g_4 (d11 (orem Tryd.prog 3 .i64 v26 4 (by decide)) (d11 g_5 (d11 (omake cSpot (v := (⟨0, 0⟩ : Spot)) (z := [int 0, int 0]) (l := ((a.length : Nat) : Int)) (b := 16) rfl c2 c3 c4) (d11 g_5 az))))) (by kernel_rfl) (by kernel_rfl) (Weak.anew [(0, some 0), (1, some 1), (2, some 2), (3, some 3)] (by rfl) (wt_cons rfl wk_sl (wt_cons rfl wk_sl (wt_cons rfl (wk_ptr rfl) (wt_cons rfl (wk_ptr rfl) (wt_cons rfl (wk_ptr rfl) (wt_cons rfl (wk_own rfl rfl) (wt_cons rfl wk_sc (wt_cons rfl wk_sl (wt_cons rfl wk_sc (wt_cons rfl wk_sc wt_nil)))))))))) (wm_box rfl rfl (wl_cons wk_sc (wl_cons wk_sc wl_nil)) (wm_box rfl rfl (wl_cons wk_sc (wl_cons wk_sc wl_nil)) (wm_box rfl rfl (wl_cons wk_sc (wl_cons wk_sc wl_nil)) (wm_row rfl rfl wm_nil))))) (seam_Congruent_W1 a b r0 r1 r2 I0 M0 I1 M1 h0 h1 v26 (0, (List.replicate (((a.length : Nat) : Int) : Int).toNat (⟨0, 0⟩ : Spot))) h)
  · have h := h.2 c1
    have g_6 := (abf (dec_f c1))
    rw [h.1, h.2.1, h.2.2]
    exact sr (ids := []) (vs := [.agg [boo false, int 0], .agg [int 0, int 0], boo false]) (mem := []) (d11 g_6 az) (by kernel_rfl) (by kernel_rfl) (rts_agg (rcs_sc (rcs_sc (rcs_nil (rts_agg (rcs_sc (rcs_sc (rcs_nil (rts_sc rfl)))))))))
theorem seam_Congruent_W (a : List Spot) (b : List Spot) (r0 : Turn) (r1 : Spot) (r2 : Bool) (I0 : Int → Prop) (M0 : Int → Nat) (I1 : Int → Int → (List Spot) → Prop) (M1 : Int → Int → (List Spot) → Nat) (h : seam_Congruent_V a b r0 r1 r2 I0 M0 I1 M1) (h0 : ∀ (v26 : Int), I0 v26 → seam_Congruent_V0 a b r0 r1 r2 I0 M0 I1 M1 v26) (h1 : ∀ (v26 : Int) (v39 : Int) (w9 : List Spot), I1 v26 v39 w9 → seam_Congruent_V1 a b r0 r1 r2 I0 M0 I1 M1 v26 v39 w9) : Ret Tryd.prog XS 13 [.sl 2 (a.map cSpot), .sl 2 (b.map cSpot)] (.tup [.agg [boo r0.flip, int r0.quarter], .agg [int r1.x, int r1.y], boo r2]) := by
  refine fn_rule Tryd.func13 (by kernel_rfl) (by kernel_rfl) (by kernel_rfl) (by kernel_rfl) ?_
  have g_7 := (olen cSpot Tryd.prog 29 2 a (by kernel_rfl))
  by_cases c1 : ((a.length : Nat) : Int) = 0
  · have h := h.1 c1
    have g_8 := (abt (beq_t c1))
    rw [h.1, h.2.1, h.2.2]
    exact sr (ids := []) (vs := [.agg [boo false, int 0], .agg [int 0, int 0], boo false]) (mem := []) (d11 g_7 (d11 g_8 (d11 g_8 (d11 g_8 (d11 g_8 (d11 g_8 (d11 g_8 (d11 abtt az)))))))) (by kernel_rfl) (by kernel_rfl) (rts_agg (rcs_sc (rcs_sc (rcs_nil (rts_agg (rcs_sc (rcs_sc (rcs_nil (rts_sc rfl)))))))))
  · have h := h.2 c1
    have g_9 := (abf (beq_f c1))
    have e_10 := fun {o : Orc} {q : List Prop} (r : At o q) => (d11 g_9 (d11 g_9 (d11 g_7 (d11 g_9 (d11 g_9 (d11 (olen cSpot Tryd.prog 29 2 b (by kernel_rfl)) (d11 g_9 (d11 g_9 r))))))))
    by_cases c2 : ((a.length : Nat) : Int) = ((b.length : Nat) : Int)
    · have h := h.1 c2
      exact sl (ts := [0, 1, 4, 5, 26]) (ids := [0, 1]) (d := 0) (s0 := ⟨[(0, .sl 2 (a.map cSpot)), (1, .sl 2 (b.map cSpot)), (4, .ptr 0 0 0), (5, .ptr 1 0 0), (26, int 0)], [(0, .box [boo false, int 0]), (1, .box [int 0, int 0])], 2⟩) (d11 g_7 (e_10 (d11 (abf (bne_f c2)) az))) (by kernel_rfl) (by kernel_rfl) (Weak.anew [(0, some 0), (1, some 1)] (by rfl) (wt_cons rfl wk_sl (wt_cons rfl wk_sl (wt_cons rfl (wk_ptr rfl) (wt_cons rfl (wk_ptr rfl) (wt_cons rfl wk_sc wt_nil))))) (wm_box rfl rfl (wl_cons wk_sc (wl_cons wk_sc wl_nil)) (wm_box rfl rfl (wl_cons wk_sc (wl_cons wk_sc wl_nil)) wm_nil))) (seam_Congruent_W0 a b r0 r1 r2 I0 M0 I1 M1 h0 h1 0 h)
    · have h := h.2 c2
      rw [h.1, h.2.1, h.2.2]
      exact sr (ids := []) (vs := [.agg [boo false, int 0], .agg [int 0, int 0], boo false]) (mem := []) (d11 g_7 (e_10 (d11 (abt (bne_t c2)) az))) (by kernel_rfl) (by kernel_rfl) (rts_agg (rcs_sc (rcs_sc (rcs_nil (rts_agg (rcs_sc (rcs_sc (rcs_nil (rts_sc rfl)))))))))

-- turn.Apply
abbrev turn_Apply_V (t0 : Turn) (s1 : Spot) (r0 : Spot) : Prop := ((t0.flip = true → (InR t0.quarter) ∧ (((t0.quarter % 4) = 1 → r0 = (⟨(IntKind.wrap .i64 (-s1.y)), (IntKind.wrap .i64 (-s1.x))⟩ : Spot)) ∧ (¬ ((t0.quarter % 4) = 1) → (((t0.quarter % 4) = 2 → r0 = (⟨(IntKind.wrap .i64 (-(IntKind.wrap .i64 (-s1.x)))), (IntKind.wrap .i64 (-s1.y))⟩ : Spot)) ∧ (¬ ((t0.quarter % 4) = 2) → (((t0.quarter % 4) = 3 → r0 = (⟨s1.y, (IntKind.wrap .i64 (-(IntKind.wrap .i64 (-s1.x))))⟩ : Spot)) ∧ (¬ ((t0.quarter % 4) = 3) → r0 = (⟨(IntKind.wrap .i64 (-s1.x)), s1.y⟩ : Spot)))))))) ∧ (t0.flip = false → (InR t0.quarter) ∧ (((t0.quarter % 4) = 1 → r0 = (⟨(IntKind.wrap .i64 (-s1.y)), s1.x⟩ : Spot)) ∧ (¬ ((t0.quarter % 4) = 1) → (((t0.quarter % 4) = 2 → r0 = (⟨(IntKind.wrap .i64 (-s1.x)), (IntKind.wrap .i64 (-s1.y))⟩ : Spot)) ∧ (¬ ((t0.quarter % 4) = 2) → (((t0.quarter % 4) = 3 → r0 = (⟨s1.y, (IntKind.wrap .i64 (-s1.x))⟩ : Spot)) ∧ (¬ ((t0.quarter % 4) = 3) → r0 = s1))))))))
theorem turn_Apply_W (t0 : Turn) (s1 : Spot) (r0 : Spot) (h : turn_Apply_V t0 s1 r0) : Ret Tryd.prog XS 21 [.agg [boo t0.flip, int t0.quarter], .agg [int s1.x, int s1.y]] (.agg [int r0.x, int r0.y]) := by
  refine fn_rule Tryd.func21 (by kernel_rfl) (by kernel_rfl) (by kernel_rfl) (by kernel_rfl) ?_
  rcases Bool.eq_false_or_eq_true t0.flip with c1 | c1
  · have h := h.1 c1
    obtain ⟨c2, h⟩ := h
    have g_1 := (onegw .i64 s1.x)
    have g_2 := (oand3 Tryd.prog 3 (wi64 c2))
    have e_3 := fun {o : Orc} {q : List Prop} (r : At o q) => (d11 (abt c1) (d11 g_1 (d11 g_2 r)))
    by_cases c3 : (t0.quarter % 4) = 1
    · have h := h.1 c3
      have g_4 := (abt (beq_t c3))
      have g_5 := (onegw .i64 s1.y)
      rw [h]
      exact sr (ids := []) (vs := [.agg [int (IntKind.wrap .i64 (-s1.y)), int (IntKind.wrap .i64 (-s1.x))]]) (mem := []) (e_3 (d11 g_4 (d11 g_5 az))) (by kernel_rfl) (by kernel_rfl) (rts_agg (rcs_sc (rcs_sc (rcs_nil rfl))))
    · have h := h.2 c3
      have g_6 := (abf (beq_f c3))
      by_cases c4 : (t0.quarter % 4) = 2
      · have h := h.1 c4
        have g_7 := (abt (beq_t c4))
        have g_8 := (onegw .i64 (IntKind.wrap .i64 (-s1.x)))
        have g_9 := (onegw .i64 s1.y)
        rw [h]
        exact sr (ids := []) (vs := [.agg [int (IntKind.wrap .i64 (-(IntKind.wrap .i64 (-s1.x)))), int (IntKind.wrap .i64 (-s1.y))]]) (mem := []) (e_3 (d11 g_6 (d11 g_7 (d11 g_8 (d11 g_9 az))))) (by kernel_rfl) (by kernel_rfl) (rts_agg (rcs_sc (rcs_sc (rcs_nil rfl))))
      · have h := h.2 c4
        have g_10 := (abf (beq_f c4))
        by_cases c5 : (t0.quarter % 4) = 3
        · have h := h.1 c5
          have g_11 := (abt (beq_t c5))
          have g_12 := (onegw .i64 (IntKind.wrap .i64 (-s1.x)))
          rw [h]
          exact sr (ids := []) (vs := [.agg [int s1.y, int (IntKind.wrap .i64 (-(IntKind.wrap .i64 (-s1.x))))]]) (mem := []) (e_3 (d11 g_6 (d11 g_10 (d11 g_11 (d11 g_12 az))))) (by kernel_rfl) (by kernel_rfl) (rts_agg (rcs_sc (rcs_sc (rcs_nil rfl))))
        · have h := h.2 c5
          have g_13 := (abf (beq_f c5))
          rw [h]
          exact sr (ids := []) (vs := [.agg [int (IntKind.wrap .i64 (-s1.x)), int s1.y]]) (mem := []) (e_3 (d11 g_6 (d11 g_10 (d11 g_13 az)))) (by kernel_rfl) (by kernel_rfl) (rts_agg (rcs_sc (rcs_sc (rcs_nil rfl))))
  · have h := h.2 c1
    obtain ⟨c2, h⟩ := h
    have g_14 := (oand3 Tryd.prog 3 (wi64 c2))
    have e_15 := fun {o : Orc} {q : List Prop} (r : At o q) => (d11 (abf c1) (d11 g_14 r))
    by_cases c3 : (t0.quarter % 4) = 1
    · have h := h.1 c3
      have g_16 := (abt (beq_t c3))
      have g_17 := (onegw .i64 s1.y)
      rw [h]
      exact sr (ids := []) (vs := [.agg [int (IntKind.wrap .i64 (-s1.y)), int s1.x]]) (mem := []) (e_15 (d11 g_16 (d11 g_17 az))) (by kernel_rfl) (by kernel_rfl) (rts_agg (rcs_sc (rcs_sc (rcs_nil rfl))))
    · have h := h.2 c3
      have g_18 := (abf (beq_f c3))
      by_cases c4 : (t0.quarter % 4) = 2
      · have h := h.1 c4
        have g_19 := (abt (beq_t c4))
        have g_20 := (onegw .i64 s1.x)
        have g_21 := (onegw .i64 s1.y)
        rw [h]
        exact sr (ids := []) (vs := [.agg [int (IntKind.wrap .i64 (-s1.x)), int (IntKind.wrap .i64 (-s1.y))]]) (mem := []) (e_15 (d11 g_18 (d11 g_19 (d11 g_20 (d11 g_21 az))))) (by kernel_rfl) (by kernel_rfl) (rts_agg (rcs_sc (rcs_sc (rcs_nil rfl))))
      · have h := h.2 c4
        have g_22 := (abf (beq_f c4))
        by_cases c5 : (t0.quarter % 4) = 3
        · have h := h.1 c5
          have g_23 := (abt (beq_t c5))
          have g_24 := (onegw .i64 s1.x)
          rw [h]
          exact sr (ids := []) (vs := [.agg [int s1.y, int (IntKind.wrap .i64 (-s1.x))]]) (mem := []) (e_15 (d11 g_18 (d11 g_22 (d11 g_23 (d11 g_24 az))))) (by kernel_rfl) (by kernel_rfl) (rts_agg (rcs_sc (rcs_sc (rcs_nil rfl))))
        · have h := h.2 c5
          have g_25 := (abf (beq_f c5))
          rw [h]
          exact sr (ids := []) (vs := [.agg [int s1.x, int s1.y]]) (mem := []) (e_15 (d11 g_18 (d11 g_22 (d11 g_25 az)))) (by kernel_rfl) (by kernel_rfl) (rts_agg (rcs_sc (rcs_sc (rcs_nil rfl))))

-- seam.move
def seam_move_S0 (listappend : List Spot) (a : List Spot) (v29 : Int) : AS := ⟨[(0, .sl 2 (listappend.map cSpot)), (1, .sl 2 (a.map cSpot)), (4, .ptr 0 0 0), (6, .ptr 1 0 0), (28, int ((listappend.length : Nat) : Int)), (29, int v29)], [(0, .box [int 0, int 0]), (1, .box [int (IntKind.wrap .i64 ((ai a 0).x - (ai listappend 0).x)), int (IntKind.wrap .i64 ((ai a 0).y - (ai listappend 0).y))])], 2⟩
abbrev seam_move_V (listappend : List Spot) (a : List Spot) (r0 : Spot) (r1 : Bool) (I0 : Int → Prop) (M0 : Int → Nat) : Prop := (Idx 0 a.length) ∧ (Idx 0 listappend.length) ∧ I0 0
abbrev seam_move_V0 (listappend : List Spot) (a : List Spot) (r0 : Spot) (r1 : Bool) (I0 : Int → Prop) (M0 : Int → Nat) (v29 : Int) : Prop := ((v29 < ((listappend.length : Nat) : Int) → (Idx v29 listappend.length) ∧ (Idx v29 a.length) ∧ (((IntKind.wrap .i64 ((ai listappend v29).x + (IntKind.wrap .i64 ((ai a 0).x - (ai listappend 0).x)))) = (ai a v29).x → (((IntKind.wrap .i64 ((ai listappend v29).y + (IntKind.wrap .i64 ((ai a 0).y - (ai listappend 0).y)))) = (ai a v29).y → (InR (v29 + 1)) ∧ I0 (v29 + 1) ∧ M0 (v29 + 1) < M0 v29) ∧ (¬ ((IntKind.wrap .i64 ((ai listappend v29).y + (IntKind.wrap .i64 ((ai a 0).y - (ai listappend 0).y)))) = (ai a v29).y) → r0 = (⟨0, 0⟩ : Spot) ∧ r1 = false))) ∧ (¬ ((IntKind.wrap .i64 ((ai listappend v29).x + (IntKind.wrap .i64 ((ai a 0).x - (ai listappend 0).x)))) = (ai a v29).x) → r0 = (⟨0, 0⟩ : Spot) ∧ r1 = false))) ∧ (¬ (v29 < ((listappend.length : Nat) : Int)) → r0 = (⟨(IntKind.wrap .i64 ((ai a 0).x - (ai listappend 0).x)), (IntKind.wrap .i64 ((ai a 0).y - (ai listappend 0).y))⟩ : Spot) ∧ r1 = true))
theorem seam_move_W0 (listappend : List Spot) (a : List Spot) (r0 : Spot) (r1 : Bool) (I0 : Int → Prop) (M0 : Int → Nat) (h0 : ∀ (v29 : Int), I0 v29 → seam_move_V0 listappend a r0 r1 I0 M0 v29) : ∀ (x : Int), I0 x → loopQ Tryd.prog XS Tryd.f28 0 (.tup [.agg [int r0.x, int r0.y], boo r1]) [] (seam_move_S0 listappend a x) := by
  intro x0 hx0
  refine loop_rule (fun (x : Int) => I0 x) (fun (x : Int) => M0 x) (fun (x : Int) => seam_move_S0 listappend a x) x0 hx0 ?_
  intro v29 hx
  have h := h0 v29 hx
  clear hx hx0 x0
  by_cases c1 : v29 < ((listappend.length : Nat) : Int)
  · have h := h.1 c1
    obtain ⟨c2, c3, h⟩ := h
    have g_1 := (oidx cSpot c2)
    have g_2 := (oidx cSpot c3)
    have e_3 := fun {o : Orc} {q : List Prop} (r : At o q) => (d11 (abt (dec_t c1)) (d11 g_1 (d11 (oaddw Tryd.prog 3 .i64 ((ai listappend v29).x) (IntKind.wrap .i64 ((ai a 0).x - (ai listappend 0).x))) (d11 g_2 r))))
    by_cases c4 : (IntKind.wrap .i64 ((ai listappend v29).x + (IntKind.wrap .i64 ((ai a 0).x - (ai listappend 0).x)))) = (ai a v29).x
    · have h := h.1 c4
      have g_4 := (abf (bne_f c4))
      have e_5 := fun {o : Orc} {q : List Prop} (r : At o q) => (d11 g_4 (d11 g_4 (d11 g_4 (d11 g_1 (d11 g_4 (d11 g_4 (d11 g_4 (d11 g_4 (d11 g_4 (d11 (oaddw Tryd.prog 3 .i64 ((ai listappend v29).y) (IntKind.wrap .i64 ((ai a 0).y - (ai listappend 0).y))) (d11 g_4 (d11 g_4 (d11 g_4 (d11 g_2 (d11 g_4 (d11 g_4 (d11 g_4 (d11 g_4 r))))))))))))))))))
      by_cases c5 : (IntKind.wrap .i64 ((ai listappend v29).y + (IntKind.wrap .i64 ((ai a 0).y - (ai listappend 0).y)))) = (ai a v29).y
      · have h := h.1 c5
        obtain ⟨c6, h⟩ := h
        exact sb (ts := [0, 1, 4, 6, 28, 29]) (ids := [0, 1]) (d := 0) (s0 := ⟨[(0, .sl 2 (listappend.map cSpot)), (1, .sl 2 (a.map cSpot)), (4, .ptr 0 0 0), (6, .ptr 1 0 0), (28, int ((listappend.length : Nat) : Int)), (29, int (v29 + 1))], [(0, .box [int 0, int 0]), (1, .box [int (IntKind.wrap .i64 ((ai a 0).x - (ai listappend 0).x)), int (IntKind.wrap .i64 ((ai a 0).y - (ai listappend 0).y))])], 2⟩) (e_3 (e_5 (d11 (abf (bne_f c5)) (d11 (oadd Tryd.prog 3 (wi64 c6)) az)))) (by kernel_rfl) (by kernel_rfl) rfl (v29 + 1) h.1 h.2 (Weak.anew [(0, some 0), (1, some 1)] (by rfl) (wt_cons rfl wk_sl (wt_cons rfl wk_sl (wt_cons rfl (wk_ptr rfl) (wt_cons rfl (wk_ptr rfl) (wt_cons rfl wk_sc (wt_cons rfl wk_sc wt_nil)))))) (wm_box rfl rfl (wl_cons wk_sc (wl_cons wk_sc wl_nil)) (wm_box rfl rfl (wl_cons wk_sc (wl_cons wk_sc wl_nil)) wm_nil)))
      · have h := h.2 c5
        rw [h.1, h.2]
        exact sr (ids := []) (vs := [.agg [int 0, int 0], boo false]) (mem := []) (e_3 (e_5 (d11 (abt (bne_t c5)) az))) (by kernel_rfl) (by kernel_rfl) (rts_agg (rcs_sc (rcs_sc (rcs_nil (rts_sc rfl)))))
    · have h := h.2 c4
      have g_6 := (abt (bne_t c4))
      rw [h.1, h.2]
      exact sr (ids := []) (vs := [.agg [int 0, int 0], boo false]) (mem := []) (e_3 (d11 g_6 (d11 g_6 (d11 g_6 (d11 g_6 (d11 g_6 (d11 g_6 (d11 g_6 (d11 g_6 (d11 g_6 (d11 g_6 (d11 g_6 (d11 g_6 (d11 g_6 (d11 g_6 (d11 g_6 (d11 abtt az))))))))))))))))) (by kernel_rfl) (by kernel_rfl) (rts_agg (rcs_sc (rcs_sc (rcs_nil (rts_sc rfl)))))
  · have h := h.2 c1
    rw [h.1, h.2]
    exact sr (ids := []) (vs := [.agg [int (IntKind.wrap .i64 ((ai a 0).x - (ai listappend 0).x)), int (IntKind.wrap .i64 ((ai a 0).y - (ai listappend 0).y))], boo true]) (mem := []) (d11 (abf (dec_f c1)) az) (by kernel_rfl) (by kernel_rfl) (rts_agg (rcs_sc (rcs_sc (rcs_nil (rts_sc rfl)))))
theorem seam_move_W (listappend : List Spot) (a : List Spot) (r0 : Spot) (r1 : Bool) (I0 : Int → Prop) (M0 : Int → Nat) (h : seam_move_V listappend a r0 r1 I0 M0) (h0 : ∀ (v29 : Int), I0 v29 → seam_move_V0 listappend a r0 r1 I0 M0 v29) : Ret Tryd.prog XS 28 [.sl 2 (listappend.map cSpot), .sl 2 (a.map cSpot)] (.tup [.agg [int r0.x, int r0.y], boo r1]) := by
  refine fn_rule Tryd.func28 (by kernel_rfl) (by kernel_rfl) (by kernel_rfl) (by kernel_rfl) ?_
  obtain ⟨c1, c2, h⟩ := h
  have g_7 := (oidx cSpot c1)
  have g_8 := (oidx cSpot c2)
  exact sl (ts := [0, 1, 4, 6, 28, 29]) (ids := [0, 1]) (d := 0) (s0 := ⟨[(0, .sl 2 (listappend.map cSpot)), (1, .sl 2 (a.map cSpot)), (4, .ptr 0 0 0), (6, .ptr 1 0 0), (28, int ((listappend.length : Nat) : Int)), (29, int 0)], [(0, .box [int 0, int 0]), (1, .box [int (IntKind.wrap .i64 ((ai a 0).x - (ai listappend 0).x)), int (IntKind.wrap .i64 ((ai a 0).y - (ai listappend 0).y))])], 2⟩) (d11 g_7 (d11 g_8 (d11 (osubw Tryd.prog 3 .i64 ((ai a 0).x) ((ai listappend 0).x)) (d11 g_7 (d11 g_8 (d11 (osubw Tryd.prog 3 .i64 ((ai a 0).y) ((ai listappend 0).y)) (d11 (olen cSpot Tryd.prog 29 2 listappend (by kernel_rfl)) az))))))) (by kernel_rfl) (by kernel_rfl) (Weak.anew [(0, some 0), (1, some 1)] (by rfl) (wt_cons rfl wk_sl (wt_cons rfl wk_sl (wt_cons rfl (wk_ptr rfl) (wt_cons rfl (wk_ptr rfl) (wt_cons rfl wk_sc (wt_cons rfl wk_sc wt_nil)))))) (wm_box rfl rfl (wl_cons wk_sc (wl_cons wk_sc wl_nil)) (wm_box rfl rfl (wl_cons wk_sc (wl_cons wk_sc wl_nil)) wm_nil))) (seam_move_W0 listappend a r0 r1 I0 M0 h0 0 h)

-- garmentref22.Congruent
end Go.Ab
end

section
namespace Go.Ab
open Go.Proofs
set_option maxRecDepth 1000000
set_option linter.unusedVariables false
attribute [local irreducible] todoQ
-- garmentref22.image
-- garmentref12.Apply
-- garmentref12.Norm
-- garmentlaw22.light
-- garmentref21.Light
def garmentref21_Light_S0 (listappend : Piece) (a : Int) (v5 : Int) (v6 : Int) : AS := ⟨[(1, int a), (2, .ptr 0 0 0), (5, int v5), (6, int v6)], [(0, .box [str listappend.name, .sl 2 (listappend.edges.map cEdge), int listappend.grain, .sl 2 (listappend.notches.map cNotch), .sl 2 (listappend.corners.map cSpot), .sl 1 (listappend.widths.map cI), boo listappend.match_])], 1⟩
abbrev garmentref21_Light_V (listappend : Piece) (a : Int) (r0 : Bool) (I0 : Int → Int → Prop) (M0 : Int → Int → Nat) : Prop := ((((listappend.edges.length : Nat) : Int) > 20 → r0 = false) ∧ (¬ (((listappend.edges.length : Nat) : Int) > 20) → ((((listappend.corners.length : Nat) : Int) > 20 → r0 = false) ∧ (¬ (((listappend.corners.length : Nat) : Int) > 20) → ((((listappend.widths.length : Nat) : Int) > 20 → r0 = false) ∧ (¬ (((listappend.widths.length : Nat) : Int) > 20) → ((((listappend.notches.length : Nat) : Int) > 20 → r0 = false) ∧ (¬ (((listappend.notches.length : Nat) : Int) > 20) → I0 0 0))))))))
abbrev garmentref21_Light_V0 (listappend : Piece) (a : Int) (r0 : Bool) (I0 : Int → Int → Prop) (M0 : Int → Int → Nat) (v5 : Int) (v6 : Int) : Prop := ((v6 < ((listappend.edges.length : Nat) : Int) → (Idx v6 listappend.edges.length) ∧ ((((((ai listappend.edges v6).line).length : Nat) : Int) > a → r0 = false) ∧ (¬ (((((ai listappend.edges v6).line).length : Nat) : Int) > a) → ((((((ai listappend.edges v6).name).size : Nat) : Int) > 100 → r0 = false) ∧ (¬ (((((ai listappend.edges v6).name).size : Nat) : Int) > 100) → (InR (v5 + ((((ai listappend.edges v6).line).length : Nat) : Int))) ∧ (InR (v6 + 1)) ∧ I0 (v5 + ((((ai listappend.edges v6).line).length : Nat) : Int)) (v6 + 1) ∧ M0 (v5 + ((((ai listappend.edges v6).line).length : Nat) : Int)) (v6 + 1) < M0 v5 v6))))) ∧ (¬ (v6 < ((listappend.edges.length : Nat) : Int)) → r0 = (decide (v5 ≤ a))))
theorem garmentref21_Light_W0 (listappend : Piece) (a : Int) (r0 : Bool) (I0 : Int → Int → Prop) (M0 : Int → Int → Nat) (h0 : ∀ (v5 : Int) (v6 : Int), I0 v5 v6 → garmentref21_Light_V0 listappend a r0 I0 M0 v5 v6) : ∀ (x : Int × Int), I0 x.1 x.2 → loopQ Tryd.prog XS Tryd.f19 0 (boo r0) [] (garmentref21_Light_S0 listappend a x.1 x.2) := by
  intro x0 hx0
  refine loop_rule (fun (x : Int × Int) => I0 x.1 x.2) (fun (x : Int × Int) => M0 x.1 x.2) (fun (x : Int × Int) => garmentref21_Light_S0 listappend a x.1 x.2) x0 hx0 ?_
  rintro ⟨v5, v6⟩ hx
  have h := h0 v5 v6 hx
  clear hx hx0 x0
  have g_1 := (olen cEdge Tryd.prog 56 2 listappend.edges (by kernel_rfl))
  by_cases c1 : v6 < ((listappend.edges.length : Nat) : Int)
  · have h := h.1 c1
    obtain ⟨c2, h⟩ := h
    have g_2 := (abt (dec_t c1))
    have g_3 := (oidx cEdge c2)
    have g_4 := (olen cSpot Tryd.prog 29 2 ((ai listappend.edges v6).line) (by kernel_rfl))
    have e_5 := fun {o : Orc} {q : List Prop} (r : At o q) => (d11 g_2 (d11 g_3 (d11 g_4 r)))
    by_cases c3 : ((((ai listappend.edges v6).line).length : Nat) : Int) > a
    · have h := h.1 c3
      have g_6 := (abt (dec_t c3))
      rw [h]
      exact sr (ids := []) (vs := [boo false]) (mem := []) (d11 g_1 (e_5 (d11 g_6 (d11 g_6 (d11 g_6 (d11 g_6 (d11 g_6 (d11 g_6 (d11 g_6 (d11 g_6 (d11 g_6 (d11 abtt az)))))))))))) (by kernel_rfl) (by kernel_rfl) (rts_sc rfl)
    · have h := h.2 c3
      have g_7 := (abf (dec_f c3))
      have e_8 := fun {o : Orc} {q : List Prop} (r : At o q) => (d11 g_7 (d11 g_7 (d11 g_7 (d11 g_7 (d11 g_3 (d11 g_7 (d11 g_7 (d11 g_7 (d11 (olens Tryd.prog 9 ((ai listappend.edges v6).name) (by kernel_rfl)) (d11 g_7 (d11 g_7 r)))))))))))
      by_cases c4 : ((((ai listappend.edges v6).name).size : Nat) : Int) > 100
      · have h := h.1 c4
        have g_9 := (abt (dec_t c4))
        rw [h]
        exact sr (ids := []) (vs := [boo false]) (mem := []) (d11 g_1 (e_5 (e_8 (d11 g_9 az)))) (by kernel_rfl) (by kernel_rfl) (rts_sc rfl)
      · have h := h.2 c4
        obtain ⟨c5, c6, h⟩ := h
        have g_10 := (abf (dec_f c4))
        exact sb (ts := [1, 2, 5, 6]) (ids := [0]) (d := 0) (s0 := ⟨[(1, int a), (2, .ptr 0 0 0), (5, int (v5 + ((((ai listappend.edges v6).line).length : Nat) : Int))), (6, int (v6 + 1))], [(0, .box [str listappend.name, .sl 2 (listappend.edges.map cEdge), int listappend.grain, .sl 2 (listappend.notches.map cNotch), .sl 2 (listappend.corners.map cSpot), .sl 1 (listappend.widths.map cI), boo listappend.match_])], 1⟩) (d11 g_1 (e_5 (e_8 (d11 g_10 (d11 g_3 (d11 g_4 (d11 (oadd Tryd.prog 3 (wi64 c5)) (d11 (oadd Tryd.prog 3 (wi64 c6)) az)))))))) (by kernel_rfl) (by kernel_rfl) rfl ((v5 + ((((ai listappend.edges v6).line).length : Nat) : Int)), (v6 + 1)) h.1 h.2 (Weak.anew [(0, some 0)] (by rfl) (wt_cons rfl wk_sc (wt_cons rfl (wk_ptr rfl) (wt_cons rfl wk_sc (wt_cons rfl wk_sc wt_nil)))) (wm_box rfl rfl (wl_cons wk_sc (wl_cons wk_sl (wl_cons wk_sc (wl_cons wk_sl (wl_cons wk_sl (wl_cons wk_sl (wl_cons wk_sc wl_nil))))))) wm_nil))
  · have h := h.2 c1
    have g_11 := (abf (dec_f c1))
    rw [h]
    exact sr (ids := []) (vs := [boo (decide (v5 ≤ a))]) (mem := []) (d11 g_1 (d11 g_11 az)) (by kernel_rfl) (by kernel_rfl) (rts_sc rfl)
theorem garmentref21_Light_W (listappend : Piece) (a : Int) (r0 : Bool) (I0 : Int → Int → Prop) (M0 : Int → Int → Nat) (h : garmentref21_Light_V listappend a r0 I0 M0) (h0 : ∀ (v5 : Int) (v6 : Int), I0 v5 v6 → garmentref21_Light_V0 listappend a r0 I0 M0 v5 v6) : Ret Tryd.prog XS 19 [.agg [str listappend.name, .sl 2 (listappend.edges.map cEdge), int listappend.grain, .sl 2 (listappend.notches.map cNotch), .sl 2 (listappend.corners.map cSpot), .sl 1 (listappend.widths.map cI), boo listappend.match_], int a] (boo r0) := by
  refine fn_rule Tryd.func19 (by kernel_rfl) (by kernel_rfl) (by kernel_rfl) (by kernel_rfl) ?_
  have g_12 := (olen cEdge Tryd.prog 56 2 listappend.edges (by kernel_rfl))
  by_cases c1 : ((listappend.edges.length : Nat) : Int) > 20
  · have h := h.1 c1
    have g_13 := (abt (dec_t c1))
    rw [h]
    exact sr (ids := []) (vs := [boo false]) (mem := []) (d11 g_12 (d11 g_13 (d11 g_13 (d11 g_13 (d11 g_13 (d11 g_13 (d11 abtt (d11 abtt (d11 abtt (d11 abtt (d11 abtt (d11 abtt (d11 abtt (d11 abtt (d11 abtt (d11 abtt (d11 abtt az))))))))))))))))) (by kernel_rfl) (by kernel_rfl) (rts_sc rfl)
  · have h := h.2 c1
    have g_14 := (abf (dec_f c1))
    have e_15 := fun {o : Orc} {q : List Prop} (r : At o q) => (d11 g_14 (d11 g_14 (d11 g_14 (d11 (olen cSpot Tryd.prog 29 2 listappend.corners (by kernel_rfl)) (d11 g_14 (d11 g_14 r))))))
    by_cases c2 : ((listappend.corners.length : Nat) : Int) > 20
    · have h := h.1 c2
      have g_16 := (abt (dec_t c2))
      rw [h]
      exact sr (ids := []) (vs := [boo false]) (mem := []) (d11 g_12 (e_15 (d11 g_16 (d11 g_16 (d11 g_16 (d11 g_16 (d11 g_16 (d11 abtt (d11 abtt (d11 abtt (d11 abtt (d11 abtt (d11 abtt az))))))))))))) (by kernel_rfl) (by kernel_rfl) (rts_sc rfl)
    · have h := h.2 c2
      have g_17 := (abf (dec_f c2))
      have e_18 := fun {o : Orc} {q : List Prop} (r : At o q) => (d11 g_17 (d11 g_17 (d11 g_17 (d11 (olen cI Tryd.prog 40 1 listappend.widths (by kernel_rfl)) (d11 g_17 (d11 g_17 r))))))
      by_cases c3 : ((listappend.widths.length : Nat) : Int) > 20
      · have h := h.1 c3
        have g_19 := (abt (dec_t c3))
        rw [h]
        exact sr (ids := []) (vs := [boo false]) (mem := []) (d11 g_12 (e_15 (e_18 (d11 g_19 (d11 g_19 (d11 g_19 (d11 g_19 (d11 g_19 (d11 abtt az))))))))) (by kernel_rfl) (by kernel_rfl) (rts_sc rfl)
      · have h := h.2 c3
        have g_20 := (abf (dec_f c3))
        have e_21 := fun {o : Orc} {q : List Prop} (r : At o q) => (d11 g_20 (d11 g_20 (d11 g_20 (d11 (olen cNotch Tryd.prog 57 2 listappend.notches (by kernel_rfl)) (d11 g_20 (d11 g_20 r))))))
        by_cases c4 : ((listappend.notches.length : Nat) : Int) > 20
        · have h := h.1 c4
          have g_22 := (abt (dec_t c4))
          rw [h]
          exact sr (ids := []) (vs := [boo false]) (mem := []) (d11 g_12 (e_15 (e_18 (e_21 (d11 g_22 az))))) (by kernel_rfl) (by kernel_rfl) (rts_sc rfl)
        · have h := h.2 c4
          have g_23 := (abf (dec_f c4))
          exact sl (ts := [1, 2, 5, 6]) (ids := [0]) (d := 0) (s0 := ⟨[(1, int a), (2, .ptr 0 0 0), (5, int 0), (6, int 0)], [(0, .box [str listappend.name, .sl 2 (listappend.edges.map cEdge), int listappend.grain, .sl 2 (listappend.notches.map cNotch), .sl 2 (listappend.corners.map cSpot), .sl 1 (listappend.widths.map cI), boo listappend.match_])], 1⟩) (d11 g_12 (e_15 (e_18 (e_21 (d11 g_23 az))))) (by kernel_rfl) (by kernel_rfl) (Weak.anew [(0, some 0)] (by rfl) (wt_cons rfl wk_sc (wt_cons rfl (wk_ptr rfl) (wt_cons rfl wk_sc (wt_cons rfl wk_sc wt_nil)))) (wm_box rfl rfl (wl_cons wk_sc (wl_cons wk_sl (wl_cons wk_sc (wl_cons wk_sl (wl_cons wk_sl (wl_cons wk_sl (wl_cons wk_sc wl_nil))))))) wm_nil)) (garmentref21_Light_W0 listappend a r0 I0 M0 h0 (0, 0) h)

end Go.Ab
end

section
namespace Go.Ab
open Go.Proofs
set_option maxRecDepth 1000000
set_option linter.unusedVariables false
attribute [local irreducible] todoQ
-- seam.Lengths
-- seam.exists
-- seam.edge
-- grade.Graded
def grade_Graded_S0 (listappend : Piece) (a : Int) (v34 : Int) : AS := ⟨[(1, int a), (2, .ptr 0 0 0), (32, .sl 2 (listappend.corners.map cSpot)), (33, int ((listappend.corners.length : Nat) : Int)), (34, int v34)], [(0, .box [str listappend.name, .sl 2 (listappend.edges.map cEdge), int listappend.grain, .sl 2 (listappend.notches.map cNotch), .sl 2 (listappend.corners.map cSpot), .sl 1 (listappend.widths.map cI), boo listappend.match_])], 1⟩
def grade_Graded_S1 (listappend : Piece) (a : Int) (v10 : List Edge) (v53 : Int) : AS := ⟨[(2, .ptr 0 0 0), (9, .fn 34 [int a] []), (10, .own 1 0 v10.length), (51, .sl 2 (listappend.edges.map cEdge)), (52, int ((listappend.edges.length : Nat) : Int)), (53, int v53)], [(1, .row 2 (v10.map cEdge)), (0, .box [str listappend.name, .sl 2 (listappend.edges.map cEdge), int listappend.grain, .sl 2 (listappend.notches.map cNotch), .sl 2 (listappend.corners.map cSpot), .sl 1 (listappend.widths.map cI), boo listappend.match_])], 2⟩
abbrev grade_Graded_V (listappend : Piece) (a : Int) (r0 : List Edge) (r1 : Int) (I0 : Int → Prop) (M0 : Int → Nat) (I1 : (List Edge) → Int → Prop) (M1 : (List Edge) → Int → Nat) : Prop := ((a < (-100) → r0 = ([] : List Edge) ∧ r1 = 3) ∧ (¬ (a < (-100)) → ((a > 100 → r0 = ([] : List Edge) ∧ r1 = 3) ∧ (¬ (a > 100) → ((((listappend.corners.length : Nat) : Int) = ((listappend.edges.length : Nat) : Int) → I0 0) ∧ (¬ (((listappend.corners.length : Nat) : Int) = ((listappend.edges.length : Nat) : Int)) → r0 = ([] : List Edge) ∧ r1 = 1))))))
abbrev grade_Graded_V0 (listappend : Piece) (a : Int) (r0 : List Edge) (r1 : Int) (I0 : Int → Prop) (M0 : Int → Nat) (I1 : (List Edge) → Int → Prop) (M1 : (List Edge) → Int → Nat) (v34 : Int) : Prop := ((v34 < ((listappend.corners.length : Nat) : Int) → (Idx v34 listappend.corners.length) ∧ (∃ (shifted1 : Bool), Ret Tryd.prog XS 32 [.agg [int ((ai listappend.corners v34).x), int ((ai listappend.corners v34).y)]] (boo shifted1) ∧ ((shifted1 = true → (InR (v34 + 1)) ∧ I0 (v34 + 1) ∧ M0 (v34 + 1) < M0 v34) ∧ (shifted1 = false → r0 = ([] : List Edge) ∧ r1 = 3)))) ∧ (¬ (v34 < ((listappend.corners.length : Nat) : Int)) → (∃ (check1 : Int), Ret Tryd.prog XS 33 [.sl 2 (listappend.edges.map cEdge)] (int check1) ∧ ((check1 = 0 → I1 ([] : List Edge) 0) ∧ (¬ (check1 = 0) → r0 = ([] : List Edge) ∧ r1 = check1)))))
abbrev grade_Graded_V1 (listappend : Piece) (a : Int) (r0 : List Edge) (r1 : Int) (I0 : Int → Prop) (M0 : Int → Nat) (I1 : (List Edge) → Int → Prop) (M1 : (List Edge) → Int → Nat) (v10 : List Edge) (v53 : Int) : Prop := ((v53 < ((listappend.edges.length : Nat) : Int) → (Idx v53 listappend.edges.length) ∧ (Idx v53 listappend.corners.length) ∧ (∃ (move1 : Spot), Ret Tryd.prog XS 34 [int a, .agg [int ((ai listappend.corners v53).x), int ((ai listappend.corners v53).y)]] (.agg [int move1.x, int move1.y]) ∧ (InR (v53 + 1)) ∧ (((listappend.corners.length : Nat) : Int) ≠ 0) ∧ (Idx ((v53 + 1).tmod ((listappend.corners.length : Nat) : Int)) listappend.corners.length) ∧ (∃ (move2 : Spot), Ret Tryd.prog XS 34 [int a, .agg [int ((ai listappend.corners ((v53 + 1).tmod ((listappend.corners.length : Nat) : Int))).x), int ((ai listappend.corners ((v53 + 1).tmod ((listappend.corners.length : Nat) : Int))).y)]] (.agg [int move2.x, int move2.y]) ∧ (∃ (along3 : List Spot), Ret Tryd.prog XS 35 [.sl 2 (((ai listappend.edges v53).line).map cSpot), .agg [int move1.x, int move1.y], .agg [int move2.x, int move2.y]] (.fr 2 (along3.map cSpot)) ∧ (Cap 40 (v10 ++ ([(⟨(ai listappend.edges v53).name, along3⟩ : Edge)] : List Edge)).length) ∧ I1 (v10 ++ ([(⟨(ai listappend.edges v53).name, along3⟩ : Edge)] : List Edge)) (v53 + 1) ∧ M1 (v10 ++ ([(⟨(ai listappend.edges v53).name, along3⟩ : Edge)] : List Edge)) (v53 + 1) < M1 v10 v53)))) ∧ (¬ (v53 < ((listappend.edges.length : Nat) : Int)) → (∃ (check1_1 : Int), Ret Tryd.prog XS 33 [.sl 2 (v10.map cEdge)] (int check1_1) ∧ ((check1_1 = 0 → r0 = v10 ∧ r1 = 0) ∧ (¬ (check1_1 = 0) → r0 = ([] : List Edge) ∧ r1 = check1_1)))))
theorem grade_Graded_W1 (listappend : Piece) (a : Int) (r0 : List Edge) (r1 : Int) (I0 : Int → Prop) (M0 : Int → Nat) (I1 : (List Edge) → Int → Prop) (M1 : (List Edge) → Int → Nat) (h0 : ∀ (v34 : Int), I0 v34 → grade_Graded_V0 listappend a r0 r1 I0 M0 I1 M1 v34) (h1 : ∀ (v10 : List Edge) (v53 : Int), I1 v10 v53 → grade_Graded_V1 listappend a r0 r1 I0 M0 I1 M1 v10 v53) : ∀ (x : (List Edge) × Int), I1 x.1 x.2 → loopQ Tryd.prog XS Tryd.f20 1 (.tup [.fr 2 (r0.map cEdge), int r1]) [] (grade_Graded_S1 listappend a x.1 x.2) := by
  intro x0 hx0
  refine loop_rule (fun (x : (List Edge) × Int) => I1 x.1 x.2) (fun (x : (List Edge) × Int) => M1 x.1 x.2) (fun (x : (List Edge) × Int) => grade_Graded_S1 listappend a x.1 x.2) x0 hx0 ?_
  rintro ⟨v10, v53⟩ hx
  have h := h1 v10 v53 hx
  clear hx hx0 x0
  by_cases c1 : v53 < ((listappend.edges.length : Nat) : Int)
  · have h := h.1 c1
    obtain ⟨c2, c3, move1, c4, c5, c6, c7, move2, c8, along3, c9, c10, h⟩ := h
    have g_1 := (abt (dec_t c1))
    have g_2 := (oadd Tryd.prog 3 (wi64 c5))
    have g_3 := (olen cSpot Tryd.prog 29 2 listappend.corners (by kernel_rfl))
    exact sb (ts := [2, 9, 10, 51, 52, 53]) (ids := [7, 0]) (d := 0) (s0 := ⟨[(2, .ptr 0 0 0), (9, .fn 34 [int a] []), (10, .own 7 0 ((v10 ++ ([(⟨(ai listappend.edges v53).name, along3⟩ : Edge)] : List Edge)).length)), (51, .sl 2 (listappend.edges.map cEdge)), (52, int ((listappend.edges.length : Nat) : Int)), (53, int (v53 + 1))], [(7, .row 2 ((v10 ++ ([(⟨(ai listappend.edges v53).name, along3⟩ : Edge)] : List Edge)).map cEdge)), (0, .box [str listappend.name, .sl 2 (listappend.edges.map cEdge), int listappend.grain, .sl 2 (listappend.notches.map cNotch), .sl 2 (listappend.corners.map cSpot), .sl 1 (listappend.widths.map cI), boo listappend.match_])], 8⟩) (d11 g_1 (d11 (oidx cEdge c2) (d11 (oidx cSpot c3) (d11 (ocs c4) (d11 g_2 (d11 g_3 (d11 (orem Tryd.prog 3 .i64 (v53 + 1) ((listappend.corners.length : Nat) : Int) c6) (d11 (oidx cSpot c7) (d11 (ocs c8) (d11 (ocs c9) (d11 (ofz cSpot along3 (n := (along3.map cSpot).length) (List.length_map ..)) (d12 (oappo cEdge (n := v10.length) (m := ([(⟨(ai listappend.edges v53).name, along3⟩ : Edge)] : List Edge).length) rfl rfl c10) (d11 g_2 az))))))))))))) (by kernel_rfl) (by kernel_rfl) rfl ((v10 ++ ([(⟨(ai listappend.edges v53).name, along3⟩ : Edge)] : List Edge)), (v53 + 1)) h.1 h.2 (Weak.anew [(1, some 7), (0, some 0)] (by rfl) (wt_cons rfl (wk_ptr rfl) (wt_cons rfl (wk_fn (wl_cons wk_sc wl_nil) wl_nil) (wt_cons rfl (wk_own rfl rfl) (wt_cons rfl wk_sl (wt_cons rfl wk_sc (wt_cons rfl wk_sc wt_nil)))))) (wm_row rfl rfl (wm_box rfl rfl (wl_cons wk_sc (wl_cons wk_sl (wl_cons wk_sc (wl_cons wk_sl (wl_cons wk_sl (wl_cons wk_sl (wl_cons wk_sc wl_nil))))))) wm_nil)))
  · have h := h.2 c1
    obtain ⟨check1_1, c2, h⟩ := h
    have g_4 := (abf (dec_f c1))
    have e_5 := fun {o : Orc} {q : List Prop} (r : At o q) => (d11 g_4 (d12 (ocl [1] [(1, .row 2 (v10.map cEdge))] [.own 1 0 v10.length] (as_cons (at_row rfl rfl) as_nil) c2) r))
    by_cases c3 : check1_1 = 0
    · have h := h.1 c3
      have g_6 := (abf (bne_f c3))
      rw [h.1, h.2]
      exact sr (ids := [1]) (vs := [.own 1 0 v10.length, int 0]) (mem := [(1, .row 2 (v10.map cEdge))]) (e_5 (d11 g_6 az)) (by kernel_rfl) (by kernel_rfl) (rts_own rfl rfl rfl (rts_sc rfl))
    · have h := h.2 c3
      have g_7 := (abt (bne_t c3))
      rw [h.1, h.2]
      exact sr (ids := []) (vs := [.nil, int check1_1]) (mem := []) (e_5 (d11 g_7 az)) (by kernel_rfl) (by kernel_rfl) (rts_nilfr (rts_sc rfl))
theorem grade_Graded_W0 (listappend : Piece) (a : Int) (r0 : List Edge) (r1 : Int) (I0 : Int → Prop) (M0 : Int → Nat) (I1 : (List Edge) → Int → Prop) (M1 : (List Edge) → Int → Nat) (h0 : ∀ (v34 : Int), I0 v34 → grade_Graded_V0 listappend a r0 r1 I0 M0 I1 M1 v34) (h1 : ∀ (v10 : List Edge) (v53 : Int), I1 v10 v53 → grade_Graded_V1 listappend a r0 r1 I0 M0 I1 M1 v10 v53) : ∀ (x : Int), I0 x → loopQ Tryd.prog XS Tryd.f20 0 (.tup [.fr 2 (r0.map cEdge), int r1]) [] (grade_Graded_S0 listappend a x) := by
  intro x0 hx0
  refine loop_rule (fun (x : Int) => I0 x) (fun (x : Int) => M0 x) (fun (x : Int) => grade_Graded_S0 listappend a x) x0 hx0 ?_
  intro v34 hx
  have h := h0 v34 hx
  clear hx hx0 x0
  by_cases c1 : v34 < ((listappend.corners.length : Nat) : Int)
  · have h := h.1 c1
    obtain ⟨c2, shifted1, c3, h⟩ := h
    have g_8 := (abt (dec_t c1))
    have e_9 := fun {o : Orc} {q : List Prop} (r : At o q) => (d11 g_8 (d11 (oidx cSpot c2) (d11 (ocs c3) r)))
    rcases Bool.eq_false_or_eq_true shifted1 with c4 | c4
    · have h := h.1 c4
      obtain ⟨c5, h⟩ := h
      have g_10 := (oadd Tryd.prog 3 (wi64 c5))
      exact sb (ts := [1, 2, 32, 33, 34]) (ids := [0]) (d := 0) (s0 := ⟨[(1, int a), (2, .ptr 0 0 0), (32, .sl 2 (listappend.corners.map cSpot)), (33, int ((listappend.corners.length : Nat) : Int)), (34, int (v34 + 1))], [(0, .box [str listappend.name, .sl 2 (listappend.edges.map cEdge), int listappend.grain, .sl 2 (listappend.notches.map cNotch), .sl 2 (listappend.corners.map cSpot), .sl 1 (listappend.widths.map cI), boo listappend.match_])], 2⟩) (e_9 (d11 (abf (not_f c4)) (d11 g_10 az))) (by kernel_rfl) (by kernel_rfl) rfl (v34 + 1) h.1 h.2 (Weak.anew [(0, some 0)] (by rfl) (wt_cons rfl wk_sc (wt_cons rfl (wk_ptr rfl) (wt_cons rfl wk_sl (wt_cons rfl wk_sc (wt_cons rfl wk_sc wt_nil))))) (wm_box rfl rfl (wl_cons wk_sc (wl_cons wk_sl (wl_cons wk_sc (wl_cons wk_sl (wl_cons wk_sl (wl_cons wk_sl (wl_cons wk_sc wl_nil))))))) wm_nil))
    · have h := h.2 c4
      rw [h.1, h.2]
      exact sr (ids := []) (vs := [.nil, int 3]) (mem := []) (e_9 (d11 (abt (not_t c4)) az)) (by kernel_rfl) (by kernel_rfl) (rts_nilfr (rts_sc rfl))
  · have h := h.2 c1
    obtain ⟨check1, c2, h⟩ := h
    have g_11 := (abf (dec_f c1))
    have e_12 := fun {o : Orc} {q : List Prop} (r : At o q) => (d11 g_11 (d11 (ocs c2) r))
    by_cases c3 : check1 = 0
    · have h := h.1 c3
      have g_13 := (abf (bne_f c3))
      have g_14 := (olen cEdge Tryd.prog 56 2 listappend.edges (by kernel_rfl))
      exact sl (ts := [2, 9, 10, 51, 52, 53]) (ids := [0]) (d := 1) (s0 := ⟨[(2, .ptr 0 0 0), (9, .fn 34 [int a] []), (10, .nil), (51, .sl 2 (listappend.edges.map cEdge)), (52, int ((listappend.edges.length : Nat) : Int)), (53, int 0)], [(0, .box [str listappend.name, .sl 2 (listappend.edges.map cEdge), int listappend.grain, .sl 2 (listappend.notches.map cNotch), .sl 2 (listappend.corners.map cSpot), .sl 1 (listappend.widths.map cI), boo listappend.match_])], 1⟩) (e_12 (d11 g_13 (d11 g_14 az))) (by kernel_rfl) (by kernel_rfl) (Weak.anew [(1, none), (0, some 0)] (by rfl) (wt_cons rfl (wk_ptr rfl) (wt_cons rfl (wk_fn (wl_cons wk_sc wl_nil) wl_nil) (wt_cons rfl (wk_nilown rfl) (wt_cons rfl wk_sl (wt_cons rfl wk_sc (wt_cons rfl wk_sc wt_nil)))))) (wm_none rfl (wm_box rfl rfl (wl_cons wk_sc (wl_cons wk_sl (wl_cons wk_sc (wl_cons wk_sl (wl_cons wk_sl (wl_cons wk_sl (wl_cons wk_sc wl_nil))))))) wm_nil))) (grade_Graded_W1 listappend a r0 r1 I0 M0 I1 M1 h0 h1 (([] : List Edge), 0) h)
    · have h := h.2 c3
      have g_15 := (abt (bne_t c3))
      rw [h.1, h.2]
      exact sr (ids := []) (vs := [.nil, int check1]) (mem := []) (e_12 (d11 g_15 az)) (by kernel_rfl) (by kernel_rfl) (rts_nilfr (rts_sc rfl))
theorem grade_Graded_W (listappend : Piece) (a : Int) (r0 : List Edge) (r1 : Int) (I0 : Int → Prop) (M0 : Int → Nat) (I1 : (List Edge) → Int → Prop) (M1 : (List Edge) → Int → Nat) (h : grade_Graded_V listappend a r0 r1 I0 M0 I1 M1) (h0 : ∀ (v34 : Int), I0 v34 → grade_Graded_V0 listappend a r0 r1 I0 M0 I1 M1 v34) (h1 : ∀ (v10 : List Edge) (v53 : Int), I1 v10 v53 → grade_Graded_V1 listappend a r0 r1 I0 M0 I1 M1 v10 v53) : Ret Tryd.prog XS 20 [.agg [str listappend.name, .sl 2 (listappend.edges.map cEdge), int listappend.grain, .sl 2 (listappend.notches.map cNotch), .sl 2 (listappend.corners.map cSpot), .sl 1 (listappend.widths.map cI), boo listappend.match_], int a] (.tup [.fr 2 (r0.map cEdge), int r1]) := by
  refine fn_rule Tryd.func20 (by kernel_rfl) (by kernel_rfl) (by kernel_rfl) (by kernel_rfl) ?_
  by_cases c1 : a < (-100)
  · have h := h.1 c1
    have g_16 := (abt (dec_t c1))
    rw [h.1, h.2]
    exact sr (ids := []) (vs := [.nil, int 3]) (mem := []) (d11 g_16 (d11 g_16 (d11 g_16 (d11 abtt az)))) (by kernel_rfl) (by kernel_rfl) (rts_nilfr (rts_sc rfl))
  · have h := h.2 c1
    have g_17 := (abf (dec_f c1))
    have e_18 := fun {o : Orc} {q : List Prop} (r : At o q) => (d11 g_17 (d11 g_17 (d11 g_17 r)))
    by_cases c2 : a > 100
    · have h := h.1 c2
      rw [h.1, h.2]
      exact sr (ids := []) (vs := [.nil, int 3]) (mem := []) (e_18 (d11 (abt (dec_t c2)) az)) (by kernel_rfl) (by kernel_rfl) (rts_nilfr (rts_sc rfl))
    · have h := h.2 c2
      have g_19 := (olen cSpot Tryd.prog 29 2 listappend.corners (by kernel_rfl))
      have g_20 := (olen cEdge Tryd.prog 56 2 listappend.edges (by kernel_rfl))
      have e_21 := fun {o : Orc} {q : List Prop} (r : At o q) => (d11 (abf (dec_f c2)) (d11 g_19 (d11 g_20 r)))
      by_cases c3 : ((listappend.corners.length : Nat) : Int) = ((listappend.edges.length : Nat) : Int)
      · have h := h.1 c3
        have g_22 := (abf (bne_f c3))
        exact sl (ts := [1, 2, 32, 33, 34]) (ids := [0]) (d := 0) (s0 := ⟨[(1, int a), (2, .ptr 0 0 0), (32, .sl 2 (listappend.corners.map cSpot)), (33, int ((listappend.corners.length : Nat) : Int)), (34, int 0)], [(0, .box [str listappend.name, .sl 2 (listappend.edges.map cEdge), int listappend.grain, .sl 2 (listappend.notches.map cNotch), .sl 2 (listappend.corners.map cSpot), .sl 1 (listappend.widths.map cI), boo listappend.match_])], 1⟩) (e_18 (e_21 (d11 g_22 (d11 g_19 az)))) (by kernel_rfl) (by kernel_rfl) (Weak.anew [(0, some 0)] (by rfl) (wt_cons rfl wk_sc (wt_cons rfl (wk_ptr rfl) (wt_cons rfl wk_sl (wt_cons rfl wk_sc (wt_cons rfl wk_sc wt_nil))))) (wm_box rfl rfl (wl_cons wk_sc (wl_cons wk_sl (wl_cons wk_sc (wl_cons wk_sl (wl_cons wk_sl (wl_cons wk_sl (wl_cons wk_sc wl_nil))))))) wm_nil)) (grade_Graded_W0 listappend a r0 r1 I0 M0 I1 M1 h0 h1 0 h)
      · have h := h.2 c3
        have g_23 := (abt (bne_t c3))
        rw [h.1, h.2]
        exact sr (ids := []) (vs := [.nil, int 1]) (mem := []) (e_18 (e_21 (d11 g_23 az))) (by kernel_rfl) (by kernel_rfl) (rts_nilfr (rts_sc rfl))

-- grade.shifted
abbrev grade_shifted_V (s0 : Spot) (r0 : Bool) : Prop := ((s0.x ≥ (-1000) → ((s0.x ≤ 1000 → ((s0.y ≥ (-1000) → r0 = (decide (s0.y ≤ 1000))) ∧ (¬ (s0.y ≥ (-1000)) → r0 = false))) ∧ (¬ (s0.x ≤ 1000) → r0 = false))) ∧ (¬ (s0.x ≥ (-1000)) → r0 = false))
theorem grade_shifted_W (s0 : Spot) (r0 : Bool) (h : grade_shifted_V s0 r0) : Ret Tryd.prog XS 32 [.agg [int s0.x, int s0.y]] (boo r0) := by
  refine fn_rule Tryd.func32 (by kernel_rfl) (by kernel_rfl) (by kernel_rfl) (by kernel_rfl) ?_
  by_cases c1 : s0.x ≥ (-1000)
  · have h := h.1 c1
    have g_1 := (abt (dec_t c1))
    have e_2 := fun {o : Orc} {q : List Prop} (r : At o q) => (d11 g_1 (d11 g_1 (d11 g_1 (d11 g_1 r))))
    by_cases c2 : s0.x ≤ 1000
    · have h := h.1 c2
      have g_3 := (abt (dec_t c2))
      have e_4 := fun {o : Orc} {q : List Prop} (r : At o q) => (d11 g_3 (d11 g_3 (d11 g_3 (d11 g_3 r))))
      by_cases c3 : s0.y ≥ (-1000)
      · have h := h.1 c3
        have g_5 := (abt (dec_t c3))
        rw [h]
        exact sr (ids := []) (vs := [boo (decide (s0.y ≤ 1000))]) (mem := []) (e_2 (e_4 (d11 g_5 (d11 g_5 (d11 g_5 (d11 g_5 az)))))) (by kernel_rfl) (by kernel_rfl) (rts_sc rfl)
      · have h := h.2 c3
        have g_6 := (abf (dec_f c3))
        rw [h]
        exact sr (ids := []) (vs := [boo false]) (mem := []) (e_2 (e_4 (d11 g_6 (d11 g_6 (d11 g_6 (d11 g_6 az)))))) (by kernel_rfl) (by kernel_rfl) (rts_sc rfl)
    · have h := h.2 c2
      have g_7 := (abf (dec_f c2))
      rw [h]
      exact sr (ids := []) (vs := [boo false]) (mem := []) (e_2 (d11 g_7 (d11 g_7 (d11 g_7 (d11 g_7 (d11 abff (d11 abff (d11 abff (d11 abff az))))))))) (by kernel_rfl) (by kernel_rfl) (rts_sc rfl)
  · have h := h.2 c1
    have g_8 := (abf (dec_f c1))
    rw [h]
    exact sr (ids := []) (vs := [boo false]) (mem := []) (d11 g_8 (d11 g_8 (d11 g_8 (d11 g_8 (d11 abff (d11 abff (d11 abff (d11 abff (d11 abff (d11 abff (d11 abff (d11 abff az)))))))))))) (by kernel_rfl) (by kernel_rfl) (rts_sc rfl)

end Go.Ab
end
