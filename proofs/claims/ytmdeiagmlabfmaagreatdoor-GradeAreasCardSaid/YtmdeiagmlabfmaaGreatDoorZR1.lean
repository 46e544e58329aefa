/- The references: names, polylines, polygons. -/
import Derived.Test.YtmdeiagmlabfmaaGreatDoorZT5
import Derived.Test.YtmdeiagmlabfmaaGreatDoorZG12
set_option linter.unusedVariables false
set_option linter.unusedSimpArgs false
set_option linter.unusedSectionVars false

namespace Go.Ab
open Go.Proofs
set_option maxRecDepth 10000
set_option linter.unusedVariables false

theorem ret_rdigit (b : Int) : Ret Tryz.prog XS 52 [.sc (.int .u8 b)] (boo (decide (48 ≤ b) && decide (b ≤ 57))) :=
  garmentref17_digit_W b _ ⟨fun h => by simp [h], fun h => by simp [show ¬ (48 ≤ b) by omega]⟩
theorem bt_of {s : ByteArray} {i : Nat} (h : i < s.size) : bt s (i : Int) = (s[i].toNat : Int) := by
  unfold bt
  rw [show ((i : Int).toNat) = i from rfl, getElem?_pos s i h]; rfl
theorem all_bytes {s : ByteArray} (h : ∀ i, (hi : i < s.size) → pS s[i] = true) : s.data.toList.all pS = true := by
  rw [List.all_eq_true]
  intro x hx
  obtain ⟨i, hi, rfl⟩ := List.getElem_of_mem hx
  have hi' : i < s.size := by rw [ba_size]; exact hi
  have := ba_get s i hi'
  rw [List.getElem?_eq_getElem hi] at this
  rw [Option.some.inj this]; exact h i hi'
theorem not_all_bytes {s : ByteArray} {i : Nat} (hi : i < s.size) (h : pS s[i] = false) : s.data.toList.all pS = false := by
  rw [List.all_eq_false]
  have := ba_get s i hi
  exact ⟨s[i], List.mem_of_getElem? this, by simp [h]⟩
theorem ret_rname (s : ByteArray) : Ret Tryz.prog XS 35 [str s] (boo (isName s)) := by
  have e0 : s = ({ data := #[] } : ByteArray) ↔ s.size = 0 := ⟨fun h => by subst h; rfl, fun h => ba_ext (by rw [List.length_eq_zero_iff.1 (show s.data.toList.length = 0 by rw [← ba_size]; exact h)])⟩
  refine garmentref17_Name_W s (isName s) (fun v => 0 ≤ v ∧ v ≤ s.size ∧ s.size ≤ 24 ∧ 0 < s.size ∧ ¬ s = ({ data := #[109, 105, 110] } : ByteArray) ∧ ¬ s = ({ data := #[109, 97, 120] } : ByteArray) ∧ (97 ≤ bt s 0 ∧ bt s 0 ≤ 122) ∧ ∀ i, (h : i < s.size) → (i : Int) < v → pS s[i] = true) (fun v => s.size - v.toNat)
    ⟨fun e => ?_, fun hne => ⟨fun h1 => ?_, fun h1 => ⟨fun e => ?_, fun h2 => ⟨fun e => ?_, fun h3 => ?_⟩⟩⟩⟩ ?_
  · have := e0.1 e; simp [isName, this]
  · simp [isName, show ¬ (s.size ≤ 24) by omega]
  · simp [isName, e]
  · simp [isName, e]
  · have hz : s.size ≠ 0 := fun h => hne (e0.2 h)
    refine ⟨⟨by omega, by omega⟩, fun h4 => ?_, fun h4 => ⟨fun h5 => ?_, fun h5 => ⟨by omega, by omega, by omega, by omega, h2, h3, ⟨by omega, by omega⟩, fun i _ hi => by omega⟩⟩⟩
    · simp [isName, show ¬ (97 ≤ bt s 0) by omega]
    · simp [isName, show ¬ (bt s 0 ≤ 122) by omega]
  · rintro v ⟨h0, h1, h24, hz, h2, h3, ⟨h4, h5⟩, hj⟩
    obtain ⟨i, rfl⟩ : ∃ i : Nat, v = i := ⟨v.toNat, by omega⟩
    have key : isName s = s.data.toList.all pS := by simp only [isName, h24, hz, h2, h3, h4, h5, decide_true, decide_false, Bool.not_false, Bool.true_and]
    refine ⟨fun hlt => ?_, fun hge => ?_⟩
    · have hi : i < s.size := by omega
      have eb := bt_of hi
      have ep : pS s[i] = ((decide (97 ≤ bt s i) && decide (bt s i ≤ 122)) || (decide (48 ≤ bt s i) && decide (bt s i ≤ 57)) || decide (bt s i = 95)) := by
        rw [eb]
        unfold pS inSet
        rw [Bool.eq_iff_iff]
        simp only [Bool.or_eq_true, Bool.and_eq_true, Nat.ble_eq, decide_eq_true_eq, Nat.beq_eq]
        omega
      have next : pS s[i] = true → 0 ≤ (i : Int) + 1 ∧ (i : Int) + 1 ≤ s.size ∧ s.size ≤ 24 ∧ 0 < s.size ∧ ¬ s = ({ data := #[109, 105, 110] } : ByteArray) ∧ ¬ s = ({ data := #[109, 97, 120] } : ByteArray) ∧ (97 ≤ bt s 0 ∧ bt s 0 ≤ 122) ∧ ∀ j, (h : j < s.size) → (j : Int) < (i : Int) + 1 → pS s[j] = true := fun hp =>
        ⟨by omega, by omega, h24, hz, h2, h3, ⟨h4, h5⟩, fun j hjl hjv => by
          by_cases hji : j = i
          · subst hji; exact hp
          · exact hj j hjl (by omega)⟩
      refine ⟨⟨h0, hlt⟩, _, ret_rdigit _, fun hd => ⟨⟨by omega, by omega⟩, next (by rw [ep, hd]; simp), by dsimp only; omega⟩, fun hd => ⟨fun h95 => ⟨⟨by omega, by omega⟩, next (by rw [ep, h95]; rfl), by dsimp only; omega⟩, fun h95 => ⟨fun ha => ?_, fun ha => ⟨fun hb => ?_, fun hb => ⟨⟨by omega, by omega⟩, next (by rw [ep]; simp [show 97 ≤ bt s i by omega, show bt s i ≤ 122 by omega]), by dsimp only; omega⟩⟩⟩⟩⟩
      · rw [key]; exact not_all_bytes hi (by rw [ep, hd]; simp [show ¬ 97 ≤ bt s i by omega, h95])
      · rw [key]; exact not_all_bytes hi (by rw [ep, hd]; simp [show ¬ bt s i ≤ 122 by omega, h95])
    · rw [key]; exact all_bytes fun j hjl => hj j hjl (by omega)
theorem ret_rnamed (l : List Edge) (i : Nat) (e : Edge) (hi : i ≤ l.length) (hn : l.length ≤ 1000000) : Ret Tryz.prog XS 36 [.sl 2 (l.map cEdge), int (i : Int), str e.name] (boo (bears (l.take i) e)) := by
  refine garmentref20_named_W l i e.name _ (fun v => 0 ≤ v ∧ v ≤ i ∧ ∀ j : Nat, (h : j < l.length) → (j : Int) < v → l[j].name ≠ e.name) (fun v => i - v.toNat) ⟨by omega, by omega, fun j _ hj => by omega⟩ ?_
  rintro v ⟨h0, h1, hj⟩
  obtain ⟨k, rfl⟩ : ∃ k : Nat, v = k := ⟨v.toNat, by omega⟩
  refine ⟨fun hlt => ?_, fun hge => ?_⟩
  · have hk : k < l.length := by omega
    rw [ai_get rfl hk]
    refine ⟨⟨h0, by omega⟩, fun he => ?_, fun he => ⟨⟨by omega, by omega⟩, ⟨by omega, by omega, fun j hjl hjv => ?_⟩, by dsimp only; omega⟩⟩
    · rw [bears, List.any_eq_true]
      exact ⟨l[k], List.mem_iff_getElem.2 ⟨k, by rw [List.length_take]; omega, by simp⟩, by simpa using he⟩
    · by_cases hji : j = k
      · subst hji; exact he
      · exact hj j hjl (by omega)
  · rw [bears, List.any_eq_false]
    intro x hx
    obtain ⟨j, hjl, rfl⟩ := List.getElem_of_mem hx
    rw [List.length_take] at hjl
    simpa using hj j (by omega) (by omega)
def far (n : Int) : Bool := decide (1048576 < n) || decide (n < -1048576)
theorem ret_rfar (n : Int) : Ret Tryz.prog XS 63 [int n] (boo (far n)) :=
  garmentref10_far_W n _ ⟨fun h => by simp [far, show 1048576 < n by omega], fun h => by simp [far, show ¬ 1048576 < n by omega]⟩
theorem far_coord (n : Int) : far n = !coord n := by
  rw [Bool.eq_iff_iff]; simp only [far, coord, Bool.or_eq_true, decide_eq_true_eq, Bool.not_eq_true', Bool.and_eq_false_iff, decide_eq_false_iff_not]; omega
theorem ret_rfarL (l : List Spot) (hn : l.length ≤ 1000000) : Ret Tryz.prog XS 53 [.sl 2 (l.map cSpot)] (boo (!l.all inGrid)) := by
  refine garmentref10_Far_W l _ (fun v => 0 ≤ v ∧ v ≤ l.length ∧ ∀ j : Nat, (h : j < l.length) → (j : Int) < v → inGrid l[j] = true) (fun v => l.length - v.toNat) ⟨by omega, by omega, fun j _ hj => by omega⟩ ?_
  rintro v ⟨h0, h1, hj⟩
  obtain ⟨i, rfl⟩ : ∃ i : Nat, v = i := ⟨v.toNat, by omega⟩
  refine ⟨fun hlt => ?_, fun hge => ?_⟩
  · have hi : i < l.length := by omega
    rw [ai_get rfl hi]
    have bad : inGrid l[i] = false → true = !l.all inGrid := fun h => by
      rw [show l.all inGrid = false from by rw [List.all_eq_false]; exact ⟨_, List.getElem_mem hi, by simp [h]⟩]; rfl
    refine ⟨⟨h0, hlt⟩, _, ret_rfar _, fun a => (bad (by simp [inGrid, far_coord] at a ⊢; simp [a])).symm, fun a => ⟨_, ret_rfar _, fun b => (bad (by simp [inGrid, far_coord] at b ⊢; simp [b])).symm, fun b => ⟨⟨by omega, by omega⟩, ⟨by omega, by omega, fun j hjl hjv => ?_⟩, by dsimp only; omega⟩⟩⟩
    by_cases hji : j = i
    · subst hji; simp [far_coord] at a b; simp [inGrid, a, b]
    · exact hj j hjl (by omega)
  · rw [show l.all inGrid = true from by
      rw [List.all_eq_true]; intro x hx
      obtain ⟨j, hjl, rfl⟩ := List.getElem_of_mem hx
      exact hj j hjl (by omega)]; rfl
theorem ret_rcheck (l : List Spot) : Ret Tryz.prog XS 37 [.sl 2 (l.map cSpot)] (int (check l)) := by
  refine garmentref10_Check_W l _ (fun v => 1 ≤ v ∧ v ≤ l.length ∧ ¬ 40 < l.length ∧ ¬ l.length < 2 ∧ l.all inGrid = true ∧ ∀ j : Int, 1 ≤ j → j < v → ¬ ai l j = ai l (j - 1)) (fun v => (l.length - v).toNat)
    ⟨fun h => check_a (by omega), fun h => ⟨fun h2 => check_b (by omega) (by omega), fun h2 => ⟨_, ret_rfarL l (by omega), fun h3 => check_c (by omega) (by omega) (by simpa using h3), fun h3 => ⟨by omega, by omega, by omega, by omega, by simpa using h3, fun j j0 j1 => by omega⟩⟩⟩⟩ ?_
  rintro v ⟨h0, h1, h2, h3, h4, h5⟩
  refine ⟨fun hlt => ⟨⟨by omega, hlt⟩, ⟨by omega, by omega⟩, ⟨by omega, by omega⟩, fun e => check_d h2 h3 h4 ⟨v, h0, hlt, e⟩, fun e => ⟨⟨by omega, by omega⟩, ⟨by omega, by omega, h2, h3, h4, fun j j0 j1 => ?_⟩, by dsimp only; omega⟩⟩, fun hlt => ?_⟩
  · by_cases e' : j = v
    · subst e'; exact e
    · exact h5 j j0 (by omega)
  · refine check_e h2 h3 h4 ?_
    rintro ⟨i, i0, i1, e⟩
    exact h5 i i0 (by omega) e
theorem ret_rcross {a b c : Spot} (ha : M a) (hb : M b) (hc : M c) : Ret Tryz.prog XS 71 [.agg [int a.x, int a.y], .agg [int b.x, int b.y], .agg [int c.x, int c.y]] (int (tn a b c)) := by
  obtain ⟨⟨a1, a2⟩, a3, a4⟩ := ha
  obtain ⟨⟨b1, b2⟩, b3, b4⟩ := hb
  obtain ⟨⟨c1, c2⟩, c3, c4⟩ := hc
  have p := mul_box (a := b.x - a.x) (b := c.y - a.y) (K := 33554432) (L := 33554432) (by omega) (by omega) (by omega) (by omega)
  have q := mul_box (a := b.y - a.y) (b := c.x - a.x) (K := 33554432) (L := 33554432) (by omega) (by omega) (by omega) (by omega)
  refine garmentref11_Cross_W a b c _ ⟨⟨by omega, by omega⟩, ⟨by omega, by omega⟩, ⟨by omega, by omega⟩, ⟨by omega, by omega⟩, ⟨by omega, by omega⟩, ⟨by omega, by omega⟩, ⟨by omega, by omega⟩, ?_⟩
  simp only [tn, Int.sub_mul, Int.mul_sub]
  have := Int.mul_comm b.x b.y; have := Int.mul_comm a.x b.y; have := Int.mul_comm b.x a.y; have := Int.mul_comm a.x a.y
  omega
theorem ret_rbetween {a b q : Spot} (ha : M a) (hb : M b) (hq : M q) : Ret Tryz.prog XS 64 [.agg [int a.x, int a.y], .agg [int b.x, int b.y], .agg [int q.x, int q.y]] (boo (hold a b q)) := by
  refine garmentref11_Between_W a b q _ ⟨_, ret_rcross ha hb hq, fun h => ⟨fun h1 => ⟨fun h2 => ⟨fun h3 => ?_, fun h3 => ?_⟩, fun h2 => ?_⟩, fun h1 => ?_⟩, fun h => ?_⟩
  · simp only [hold, wi, h, h1, h2, h3, decide_true, Bool.true_and]
  · simp only [hold, wi, h, h1, h2, h3, decide_true, decide_false, Bool.true_and, Bool.false_and]
  · simp only [hold, wi, h, h1, h2, decide_true, decide_false, Bool.true_and, Bool.false_and, Bool.and_false]
  · simp only [hold, wi, h, h1, decide_true, decide_false, Bool.true_and, Bool.false_and]
  · simp only [hold, h, decide_false, Bool.false_and]
def sg (n : Int) : Int := if n > 0 then 1 else if n < 0 then -1 else 0
theorem ret_rsign (n : Int) : Ret Tryz.prog XS 72 [int n] (int (sg n)) :=
  garmentref11_sign_W n _ ⟨fun h => by rw [sg, if_pos h], fun h => ⟨fun h2 => by rw [sg, if_neg h, if_pos h2], fun h2 => by rw [sg, if_neg h, if_neg h2]⟩⟩
theorem sg_range (n m : Int) : InR (sg n * sg m) := by unfold sg; split <;> split <;> (try split) <;> (try split) <;> decide
theorem sg_divi (a b c d : Spot) : decide (sg (tn a b c) * sg (tn a b d) < 0) = divi a b c d := by
  unfold divi
  generalize tn a b c = n; generalize tn a b d = m
  rw [Bool.eq_iff_iff]
  simp only [decide_eq_true_eq, Bool.or_eq_true, Bool.and_eq_true]
  unfold sg
  split <;> split <;> (try split) <;> (try split) <;> omega
theorem ret_rmeet {a b c d : Spot} (ha : M a) (hb : M b) (hc : M c) (hd : M d) : Ret Tryz.prog XS 65 [.agg [int a.x, int a.y], .agg [int b.x, int b.y], .agg [int c.x, int c.y], .agg [int d.x, int d.y]] (boo (meet a b c d)) := by
  refine garmentref11_meet_W a b c d _ ⟨_, ret_rbetween ha hb hc, fun h1 => by simp [meet, h1], fun h1 => ⟨_, ret_rbetween ha hb hd, fun h2 => by simp [meet, h2], fun h2 => ⟨_, ret_rbetween hc hd ha, fun h3 => by simp [meet, h3], fun h3 => ⟨_, ret_rbetween hc hd hb, fun h4 => by simp [meet, h4], fun h4 => ?_⟩⟩⟩⟩
  refine ⟨_, ret_rcross ha hb hc, _, ret_rsign _, _, ret_rcross ha hb hd, _, ret_rsign _, sg_range _ _, fun h5 => ⟨_, ret_rcross hc hd ha, _, ret_rsign _, _, ret_rcross hc hd hb, _, ret_rsign _, sg_range _ _, ?_⟩, fun h5 => ?_⟩
  · rw [sg_divi]
    have : divi a b c d = true := by rw [← sg_divi]; simpa using h5
    simp [meet, h1, h2, h3, h4, this]
  · have : divi a b c d = false := by rw [← sg_divi]; simpa using h5
    simp [meet, h1, h2, h3, h4, this]
theorem ret_rsimple (p : List Spot) (hM : ∀ q, q ∈ p → M q) (h3 : 3 ≤ p.length) (hn : p.length ≤ 1000000) : Ret Tryz.prog XS 55 [.sl 2 (p.map cSpot)] (boo (simpleB p)) := by
  have hv : ∀ i, M (vx p i) := fun i => hM _ (vx_mem (by omega) i)
  have tm : ∀ i k : Nat, ((i : Int) + (k : Int)).tmod (p.length : Int) = (((i + k) % p.length : Nat) : Int) := fun i k => tmod_nat (by omega) rfl
  have tm1 : ∀ i : Nat, ((i : Int) + 1).tmod (p.length : Int) = (((i + 1) % p.length : Nat) : Int) := fun i => tm i 1
  have tm2 : ∀ i : Nat, ((i : Int) + 2).tmod (p.length : Int) = (((i + 2) % p.length : Nat) : Int) := fun i => tm i 2
  have at_ : ∀ i : Nat, ai p ((i % p.length : Nat) : Int) = vx p i := fun i => by rw [ai_vx rfl (Nat.mod_lt _ (by omega)), vx_mod]
  have il : ∀ i : Nat, Idx ((i % p.length : Nat) : Int) p.length := fun i => ⟨by omega, by have := Nat.mod_lt i (show 0 < p.length by omega); omega⟩
  refine garmentref11_simple_W p (simpleB p)
    (fun v => 0 ≤ v ∧ v ≤ p.length ∧ ∀ i : Nat, (i : Int) < v → vx p i ≠ vx p (i + 1) ∧ hold (vx p i) (vx p (i + 1)) (vx p (i + 2)) = false ∧ hold (vx p (i + 1)) (vx p (i + 2)) (vx p i) = false ∧
      ∀ k, i + 2 ≤ k → k < p.length → ¬ (i = 0 ∧ k = p.length - 1) → meet (vx p i) (vx p (i + 1)) (vx p k) (vx p (k + 1)) = false) (fun v => p.length - v.toNat)
    (fun v k => 0 ≤ v ∧ v < p.length ∧ v + 2 ≤ k ∧ k ≤ p.length + 2 ∧ (∀ i : Nat, (i : Int) < v → vx p i ≠ vx p (i + 1) ∧ hold (vx p i) (vx p (i + 1)) (vx p (i + 2)) = false ∧ hold (vx p (i + 1)) (vx p (i + 2)) (vx p i) = false ∧
      ∀ k, i + 2 ≤ k → k < p.length → ¬ (i = 0 ∧ k = p.length - 1) → meet (vx p i) (vx p (i + 1)) (vx p k) (vx p (k + 1)) = false) ∧
      (∀ i : Nat, (i : Int) = v → vx p i ≠ vx p (i + 1) ∧ hold (vx p i) (vx p (i + 1)) (vx p (i + 2)) = false ∧ hold (vx p (i + 1)) (vx p (i + 2)) (vx p i) = false ∧
      ∀ j : Nat, i + 2 ≤ j → (j : Int) < k → j < p.length → ¬ (i = 0 ∧ j = p.length - 1) → meet (vx p i) (vx p (i + 1)) (vx p j) (vx p (j + 1)) = false)) (fun v k => p.length + 2 - k.toNat)
    ⟨by omega, by omega, fun i hi => by omega⟩ ?_ ?_
  · rintro v ⟨h0, h1, h2⟩
    obtain ⟨i, rfl⟩ : ∃ i : Nat, v = i := ⟨v.toNat, by omega⟩
    refine ⟨fun hlt => ?_, fun hge => ?_⟩
    · have hi : i < p.length := by omega
      rw [tm1, tm2, at_, at_, ai_vx rfl hi]
      refine ⟨⟨h0, hlt⟩, ⟨by omega, by omega⟩, by omega, il _, ⟨by omega, by omega⟩, il _, fun e => ?_, fun e => ⟨_, ret_rbetween (hv _) (hv _) (hv _), fun b => ?_, fun b => ⟨_, ret_rbetween (hv _) (hv _) (hv _), fun c => ?_, fun c => ⟨by omega, by omega, by omega, by omega, h2, fun j hj => ?_⟩⟩⟩⟩
      · exact simpleB_f hi fun hh => hh.1 e
      · exact simpleB_f hi fun hh => by have := hh.2.1; rw [b] at this; cases this
      · exact simpleB_f hi fun hh => by have := hh.2.2.1; rw [c] at this; cases this
      · obtain rfl : j = i := by omega
        exact ⟨e, b, c, fun q hq hq2 => by omega⟩
    · have hs : Simple p := fun i hi => h2 i (by omega)
      simp [simpleB, hs]
  · rintro v k ⟨h0, h1, hvk, hk2, h2, h4⟩
    obtain ⟨i, rfl⟩ : ∃ i : Nat, v = i := ⟨v.toNat, by omega⟩
    obtain ⟨m, rfl⟩ : ∃ m : Nat, k = m := ⟨k.toNat, by omega⟩
    have hi : i < p.length := by omega
    have next : ∀ (hlt : (m : Int) < p.length), (¬ (i = 0 ∧ m = p.length - 1) → meet (vx p i) (vx p (i + 1)) (vx p m) (vx p (m + 1)) = false) →
        (∀ j : Nat, (j : Int) = i → vx p j ≠ vx p (j + 1) ∧ hold (vx p j) (vx p (j + 1)) (vx p (j + 2)) = false ∧ hold (vx p (j + 1)) (vx p (j + 2)) (vx p j) = false ∧
          ∀ q : Nat, j + 2 ≤ q → (q : Int) < (m : Int) + 1 → q < p.length → ¬ (j = 0 ∧ q = p.length - 1) → meet (vx p j) (vx p (j + 1)) (vx p q) (vx p (q + 1)) = false) := by
      intro hlt hmm j hj
      obtain rfl : j = i := by omega
      obtain ⟨a1, a2, a3, a4⟩ := h4 j rfl
      refine ⟨a1, a2, a3, fun q hq hq2 hq3 hq4 => ?_⟩
      by_cases hqm : q = m
      · subst hqm; exact hmm hq4
      · exact a4 q hq (by omega) hq3 hq4
    refine ⟨fun hlt => ?_, fun hge => ?_⟩
    · have hml : m < p.length := by omega
      have hmod : (m + 1) % p.length = i ↔ (i = 0 ∧ m = p.length - 1) := by
        by_cases e : m + 1 = p.length
        · rw [e, Nat.mod_self]; omega
        · rw [Nat.mod_eq_of_lt (by omega)]; omega
      rw [tm1, tm1, at_, at_, ai_vx rfl hi, ai_vx rfl hml]
      refine ⟨⟨by omega, by omega⟩, by omega, fun he => ⟨⟨by omega, by omega, by omega, by omega, h2, next hlt fun hn => absurd (hmod.1 (by omega)) hn⟩, by dsimp only; omega⟩, fun he => ⟨⟨by omega, hlt⟩, il _, _, ret_rmeet (hv _) (hv _) (hv _) (hv _), fun hb => ?_, fun hb => ⟨⟨by omega, by omega, by omega, by omega, h2, next hlt fun _ => hb⟩, by dsimp only; omega⟩⟩⟩
      exact simpleB_f hi fun hh => by have := hh.2.2.2 m (by omega) hml (fun hn => he (by rw [hmod.2 hn])); rw [hb] at this; cases this
    · refine ⟨⟨by omega, by omega⟩, ⟨by omega, by omega, fun j hj => ?_⟩, by dsimp only; omega⟩
      by_cases hji : j = i
      · subst hji
        obtain ⟨a1, a2, a3, a4⟩ := h4 j rfl
        exact ⟨a1, a2, a3, fun q hq hq2 hq3 => a4 q hq (by omega) hq2 hq3⟩
      · exact h2 j (by omega)
theorem ret_rwithin (s : Spot) (a : Nat) (ha : a ≤ 4611686018427387904) : Ret Tryz.prog XS 54 [.agg [int s.x, int s.y], int (a : Int)] (boo (decide (-(a : Int) ≤ s.x ∧ s.x ≤ a ∧ -(a : Int) ≤ s.y ∧ s.y ≤ a))) := by
  refine garmentref11_Within_W s a _ ⟨⟨by omega, by omega⟩, fun h => ⟨fun h1 => ⟨fun h2 => ?_, fun h2 => ?_⟩, fun h1 => ?_⟩, fun h => ?_⟩
  · rw [decide_eq_decide]; omega
  all_goals (rw [decide_eq_false]; omega)
theorem within_grid (s : Spot) : decide (-((1048576 : Nat) : Int) ≤ s.x ∧ s.x ≤ (1048576 : Nat) ∧ -((1048576 : Nat) : Int) ≤ s.y ∧ s.y ≤ (1048576 : Nat)) = inGrid s := by
  unfold inGrid coord
  rw [Bool.eq_iff_iff]
  simp only [decide_eq_true_eq, Bool.and_eq_true]
  omega
theorem ret_rpcheck (p : List Spot) : Ret Tryz.prog XS 38 [.sl 2 (p.map cSpot)] (int (pcheck p)) := by
  refine garmentref11_Check_W p (pcheck p) (fun v => 0 ≤ v ∧ v ≤ p.length ∧ 3 ≤ p.length ∧ p.length ≤ 40 ∧ ∀ i : Nat, (h : i < p.length) → (i : Int) < v → inGrid p[i] = true) (fun v => p.length - v.toNat)
    ⟨fun h => by rw [pcheck, if_pos (by omega)], fun h => ⟨fun h2 => by rw [pcheck, if_neg (by omega), if_pos (by omega)], fun h2 => ⟨by omega, by omega, by omega, by omega, fun i hi hj => by omega⟩⟩⟩ ?_
  rintro v ⟨h0, h1, h3, h40, h2⟩
  obtain ⟨i, rfl⟩ : ∃ i : Nat, v = i := ⟨v.toNat, by omega⟩
  refine ⟨fun hlt => ?_, fun hge => ?_⟩
  · have hi : i < p.length := by omega
    rw [ai_get rfl hi]
    refine ⟨⟨h0, hlt⟩, _, ret_rwithin _ 1048576 (by decide), fun hx => ⟨⟨by omega, by omega⟩, ⟨by omega, by omega, h3, h40, fun j hj hl => ?_⟩, by dsimp only; omega⟩, fun hx => ?_⟩
    · by_cases hji : j = i
      · subst hji; rw [← within_grid]; exact hx
      · exact h2 j hj (by omega)
    · have : ¬ (p.all inGrid = true) := by
        intro ha
        have := List.all_eq_true.1 ha _ (List.getElem_mem hi)
        rw [← within_grid, hx] at this; cases this
      rw [pcheck, if_neg (by omega), if_neg (by omega), if_neg this]
  · have hall : p.all inGrid = true := by
      rw [List.all_eq_true]
      intro q hq
      obtain ⟨j, hj, rfl⟩ := List.getElem_of_mem hq
      exact h2 j hj (by omega)
    have hM : ∀ q, q ∈ p → M q := fun q hq => (G_of (List.all_eq_true.1 hall q hq)).M
    exact ⟨_, ret_rsimple p hM h3 (by omega), fun hs => by rw [pcheck, if_neg (by omega), if_neg (by omega), if_pos hall, if_pos hs], fun hs => by rw [pcheck, if_neg (by omega), if_neg (by omega), if_pos hall, if_neg (by simp [hs])]⟩
end Go.Ab
