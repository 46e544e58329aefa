/- math/bits: products and quotients of two words. -/
import Derived.Test.YtjbodjmkfklleaaDoorEWall
import Derived.Test.YtjbodjmkfklleaaDoorKV
set_option linter.unusedVariables false
set_option linter.unusedSimpArgs false
set_option linter.unusedSectionVars false

section
namespace Go.Ab
open Go.Proofs
set_option maxRecDepth 100000
set_option linter.unusedVariables false

theorem prod_halves (q r s t : Int) : (q * 4294967296 + r) * (s * 4294967296 + t) = q * s * 18446744073709551616 + (q * t + r * s) * 4294967296 + r * t := by
  have e1 : q * 4294967296 * (s * 4294967296) = q * s * 18446744073709551616 := by
    rw [Int.mul_assoc, Int.mul_left_comm 4294967296 s, ← Int.mul_assoc]; rfl
  have e2 : r * (s * 4294967296) = r * s * 4294967296 := (Int.mul_assoc ..).symm
  have e3 : q * 4294967296 * t = q * t * 4294967296 := by rw [Int.mul_assoc, Int.mul_comm 4294967296 t, ← Int.mul_assoc]
  rw [Int.add_mul, Int.mul_add, Int.mul_add, e1, e2, e3]; omega
theorem half_prod {a b : Int} (h1 : 0 ≤ a) (h2 : a ≤ 4294967295) (h3 : 0 ≤ b) (h4 : b ≤ 4294967295) : 0 ≤ a * b ∧ a * b ≤ 18446744065119617025 :=
  ⟨Int.mul_nonneg h1 h3, Int.mul_le_mul h2 h4 h3 (by decide)⟩
theorem ret_mul64 {x y : Int} (hx : 0 ≤ x ∧ x < 18446744073709551616) (hy : 0 ≤ y ∧ y < 18446744073709551616) :
    Ret Tryd.prog XS 24 [.sc (.int .u64 x), .sc (.int .u64 y)] (.tup [.sc (.int .u64 (x * y / 18446744073709551616)), .sc (.int .u64 (x * y % 18446744073709551616))]) := by
  refine math_bits_Mul64_W x y _ _ ⟨?_, (wU _).symm⟩
  have e : x * y = x / 4294967296 * (y / 4294967296) * 18446744073709551616 + (x / 4294967296 * (y % 4294967296) + x % 4294967296 * (y / 4294967296)) * 4294967296 + x % 4294967296 * (y % 4294967296) := by
    rw [← prod_halves, show x / 4294967296 * 4294967296 + x % 4294967296 = x by omega, show y / 4294967296 * 4294967296 + y % 4294967296 = y by omega]
  rw [shR32 hx.1, shR32 hy.1, bAnd_mask hx.1 hx.2, bAnd_mask hy.1 hy.2, e]
  have a := half_prod (a := x / 4294967296) (b := y / 4294967296) (by omega) (by omega) (by omega) (by omega)
  have b := half_prod (a := x / 4294967296) (b := y % 4294967296) (by omega) (by omega) (by omega) (by omega)
  have c := half_prod (a := x % 4294967296) (b := y / 4294967296) (by omega) (by omega) (by omega) (by omega)
  have d := half_prod (a := x % 4294967296) (b := y % 4294967296) (by omega) (by omega) (by omega) (by omega)
  generalize x / 4294967296 * (y / 4294967296) = A at *
  generalize x / 4294967296 * (y % 4294967296) = B at *
  generalize x % 4294967296 * (y / 4294967296) = C at *
  generalize x % 4294967296 * (y % 4294967296) = D at *
  rw [wU_id (x := A) (by omega) (by omega), wU_id (x := B) (by omega) (by omega), wU_id (x := C) (by omega) (by omega), wU_id (x := D) (by omega) (by omega), shR32 (a := D) (by omega), wU_id (x := B + D / 4294967296) (by omega) (by omega), shR32 (by omega), bAnd_mask (by omega) (by omega),
    wU_id (x := A + (B + D / 4294967296) / 4294967296) (by omega) (by omega), wU_id (x := (B + D / 4294967296) % 4294967296 + C) (by omega) (by omega), shR32 (by omega), wU_id (by omega) (by omega)]
  omega

/-- The number of bits. -/
structure LenOf (x n : Int) : Prop where
  n0 : 0 ≤ n
  n64 : n ≤ 64
  zero : x = 0 → n = 0
  pos : 0 < x → 1 ≤ n ∧ 2 ^ (n.toNat - 1) ≤ x ∧ x < 2 ^ n.toNat
theorem len_shift {x t : Int} {k : Nat} (h1 : (2 : Int) ^ k ≤ x) (h : LenOf (x / 2 ^ k) t) (ht : k + t ≤ 64) : LenOf x (k + t) := by
  have pk : (0 : Int) < 2 ^ k := Int.pow_pos (by decide)
  have y1 : 1 ≤ x / 2 ^ k := (Int.le_ediv_iff_mul_le pk).2 (by omega)
  obtain ⟨t1, l, u⟩ := h.pos (by omega)
  have e1 : ((k : Int) + t).toNat - 1 = (t.toNat - 1) + k := by omega
  have e2 : ((k : Int) + t).toNat = t.toNat + k := by omega
  have em := Int.mul_ediv_add_emod x (2 ^ k)
  have m0 := Int.emod_nonneg x (show (2 : Int) ^ k ≠ 0 by omega)
  have m1 := Int.emod_lt_of_pos x pk
  refine ⟨by omega, ht, fun h0 => by omega, fun _ => ⟨by omega, ?_, ?_⟩⟩
  · rw [e1, Int.pow_add]
    have := Int.mul_le_mul_of_nonneg_right l (Int.le_of_lt pk)
    rw [Int.mul_comm (x / 2 ^ k)] at this; omega
  · rw [e2, Int.pow_add]
    have : (x / 2 ^ k + 1) * 2 ^ k ≤ 2 ^ t.toNat * 2 ^ k := Int.mul_le_mul_of_nonneg_right u (Int.le_of_lt pk)
    rw [Int.add_mul, Int.one_mul, Int.mul_comm (x / 2 ^ k)] at this; omega
def tabB (i : Nat) : Nat := ((math_bits_Len64_s0[i]?).getD 0).toNat
theorem tab_ok : ((List.range 256).all fun i => (Nat.beq i 0 && Nat.beq (tabB i) 0) || (Nat.ble 1 i && (Nat.ble 1 (tabB i) && (Nat.ble (tabB i) 8 && (Nat.ble (2 ^ (tabB i - 1)) i && Nat.ble (i + 1) (2 ^ tabB i)))))) = true := by kernel_rfl
theorem tab_size : math_bits_Len64_s0.size = 256 := by kernel_rfl
theorem tab_len {x : Int} (h0 : 0 ≤ x) (h1 : x < 256) : LenOf x (bt math_bits_Len64_s0 x) ∧ bt math_bits_Len64_s0 x ≤ 8 := by
  obtain ⟨i, rfl⟩ : ∃ i : Nat, x = i := ⟨x.toNat, by omega⟩
  have e : bt math_bits_Len64_s0 (i : Int) = (tabB i : Int) := rfl
  have := (List.all_eq_true.1 tab_ok) i (List.mem_range.2 (by omega))
  simp only [Bool.or_eq_true, Bool.and_eq_true, Nat.beq_eq, Nat.ble_eq] at this
  rw [e]
  rcases this with ⟨a, b⟩ | ⟨a, b, c, d, f⟩
  · rw [b]; exact ⟨⟨by omega, by omega, fun _ => rfl, fun h => by omega⟩, by omega⟩
  · refine ⟨⟨by omega, by omega, fun h => by omega, fun _ => ⟨by omega, ?_, ?_⟩⟩, by omega⟩
    · rw [Int.toNat_natCast]; exact_mod_cast d
    · rw [Int.toNat_natCast]
      have : ((i + 1 : Nat) : Int) ≤ ((2 ^ tabB i : Nat) : Int) := Int.ofNat_le.2 f
      rw [Int.natCast_pow] at this
      have e2 : ((2 : Nat) : Int) = 2 := rfl
      rw [e2] at this; omega
theorem sh16 {a : Int} (h : 0 ≤ a) : shR .u64 a 16 = a / 65536 := shR_eq h
theorem sh8 {a : Int} (h : 0 ≤ a) : shR .u64 a 8 = a / 256 := shR_eq h
theorem w64i {x : Int} (h1 : 0 ≤ x) (h2 : x ≤ 1000) : IntKind.i64.wrap x = x := wi64 ⟨by omega, by omega⟩
theorem ret_len64 {x : Int} (hx : 0 ≤ x) (hx2 : x < 18446744073709551616) : ∃ n, LenOf x n ∧ Ret Tryd.prog XS 47 [.sc (.int .u64 x)] (int n) := by
  have sz := tab_size
  have leaf : ∀ y : Int, 0 ≤ y → y < 256 → (InU8 y) ∧ (Idx y math_bits_Len64_s0.size) ∧ (InR (bt math_bits_Len64_s0 y)) ∧ 0 ≤ bt math_bits_Len64_s0 y ∧ bt math_bits_Len64_s0 y ≤ 8 := fun y h0 h1 => by
    have := tab_len h0 h1
    have := this.1.n0
    exact ⟨⟨by omega, by omega⟩, ⟨by omega, by omega⟩, ⟨by omega, by omega⟩, by omega, by omega⟩
  by_cases c1 : x ≥ 4294967296
  · have e1 := shR32 hx
    by_cases c2 : x / 4294967296 ≥ 65536
    · have e2 := sh16 (a := x / 4294967296) (by omega)
      by_cases c3 : x / 4294967296 / 65536 ≥ 256
      · have e3 := sh8 (a := x / 4294967296 / 65536) (by omega)
        obtain ⟨l1, l2, l3, l4, l5⟩ := leaf (x / 4294967296 / 65536 / 256) (by omega) (by omega)
        have t := (tab_len (x := x / 4294967296 / 65536 / 256) (by omega) (by omega)).1
        have t1 := len_shift (x := x / 4294967296 / 65536) (k := 8) (by show (256 : Int) ≤ _; omega) t (by omega)
        have t2 := len_shift (x := x / 4294967296) (k := 16) (by show (65536 : Int) ≤ _; omega) t1 (by omega)
        have t3 := len_shift (x := x) (k := 32) (by show (4294967296 : Int) ≤ _; omega) t2 (by omega)
        exact ⟨_, t3, math_bits_Len64_W x _ ⟨fun _ => ⟨_, e1.symm, fun _ => ⟨_, e2.symm, fun _ => ⟨_, e3.symm, l1, l2, _, rfl, l3, _, rfl, by rw [w64i (by omega) (by omega)]; omega⟩, fun h => absurd c3 h⟩, fun h => absurd c2 h⟩, fun h => absurd c1 h⟩⟩
      · obtain ⟨l1, l2, l3, l4, l5⟩ := leaf (x / 4294967296 / 65536) (by omega) (by omega)
        have t := (tab_len (x := x / 4294967296 / 65536) (by omega) (by omega)).1
        have t2 := len_shift (x := x / 4294967296) (k := 16) (by show (65536 : Int) ≤ _; omega) t (by omega)
        have t3 := len_shift (x := x) (k := 32) (by show (4294967296 : Int) ≤ _; omega) t2 (by omega)
        exact ⟨_, t3, math_bits_Len64_W x _ ⟨fun _ => ⟨_, e1.symm, fun _ => ⟨_, e2.symm, fun h => absurd h c3, fun _ => ⟨l1, l2, _, rfl, l3, _, rfl, by rw [w64i (by omega) (by omega)]; omega⟩⟩, fun h => absurd c2 h⟩, fun h => absurd c1 h⟩⟩
    · by_cases c3 : x / 4294967296 ≥ 256
      · have e3 := sh8 (a := x / 4294967296) (by omega)
        obtain ⟨l1, l2, l3, l4, l5⟩ := leaf (x / 4294967296 / 256) (by omega) (by omega)
        have t := (tab_len (x := x / 4294967296 / 256) (by omega) (by omega)).1
        have t2 := len_shift (x := x / 4294967296) (k := 8) (by show (256 : Int) ≤ _; omega) t (by omega)
        have t3 := len_shift (x := x) (k := 32) (by show (4294967296 : Int) ≤ _; omega) t2 (by omega)
        exact ⟨_, t3, math_bits_Len64_W x _ ⟨fun _ => ⟨_, e1.symm, fun h => absurd h c2, fun _ => ⟨fun _ => ⟨_, e3.symm, l1, l2, _, rfl, l3, _, rfl, by rw [w64i (by omega) (by omega)]; omega⟩, fun h => absurd c3 h⟩⟩, fun h => absurd c1 h⟩⟩
      · obtain ⟨l1, l2, l3, l4, l5⟩ := leaf (x / 4294967296) (by omega) (by omega)
        have t := (tab_len (x := x / 4294967296) (by omega) (by omega)).1
        have t3 := len_shift (x := x) (k := 32) (by show (4294967296 : Int) ≤ _; omega) t (by omega)
        exact ⟨_, t3, math_bits_Len64_W x _ ⟨fun _ => ⟨_, e1.symm, fun h => absurd h c2, fun _ => ⟨fun h => absurd h c3, fun _ => ⟨l1, l2, _, rfl, l3, _, rfl, by rw [w64i (by omega) (by omega)]; omega⟩⟩⟩, fun h => absurd c1 h⟩⟩
  · by_cases c2 : x ≥ 65536
    · have e2 := sh16 hx
      by_cases c3 : x / 65536 ≥ 256
      · have e3 := sh8 (a := x / 65536) (by omega)
        obtain ⟨l1, l2, l3, l4, l5⟩ := leaf (x / 65536 / 256) (by omega) (by omega)
        have t := (tab_len (x := x / 65536 / 256) (by omega) (by omega)).1
        have t2 := len_shift (x := x / 65536) (k := 8) (by show (256 : Int) ≤ _; omega) t (by omega)
        have t3 := len_shift (x := x) (k := 16) (by show (65536 : Int) ≤ _; omega) t2 (by omega)
        exact ⟨_, t3, math_bits_Len64_W x _ ⟨fun h => absurd h c1, fun _ => ⟨fun _ => ⟨_, e2.symm, fun _ => ⟨_, e3.symm, l1, l2, _, rfl, l3, _, rfl, by rw [w64i (by omega) (by omega)]; omega⟩, fun h => absurd c3 h⟩, fun h => absurd c2 h⟩⟩⟩
      · obtain ⟨l1, l2, l3, l4, l5⟩ := leaf (x / 65536) (by omega) (by omega)
        have t := (tab_len (x := x / 65536) (by omega) (by omega)).1
        have t3 := len_shift (x := x) (k := 16) (by show (65536 : Int) ≤ _; omega) t (by omega)
        exact ⟨_, t3, math_bits_Len64_W x _ ⟨fun h => absurd h c1, fun _ => ⟨fun _ => ⟨_, e2.symm, fun h => absurd h c3, fun _ => ⟨l1, l2, _, rfl, l3, _, rfl, by rw [w64i (by omega) (by omega)]; omega⟩⟩, fun h => absurd c2 h⟩⟩⟩
    · by_cases c3 : x ≥ 256
      · have e3 := sh8 hx
        obtain ⟨l1, l2, l3, l4, l5⟩ := leaf (x / 256) (by omega) (by omega)
        have t := (tab_len (x := x / 256) (by omega) (by omega)).1
        have t3 := len_shift (x := x) (k := 8) (by show (256 : Int) ≤ _; omega) t (by omega)
        exact ⟨_, t3, math_bits_Len64_W x _ ⟨fun h => absurd h c1, fun _ => ⟨fun h => absurd h c2, fun _ => ⟨fun _ => ⟨_, e3.symm, l1, l2, _, rfl, l3, _, rfl, by rw [w64i (by omega) (by omega)]; omega⟩, fun h => absurd c3 h⟩⟩⟩⟩
      · obtain ⟨l1, l2, l3, l4, l5⟩ := leaf x (by omega) (by omega)
        have t := (tab_len (x := x) (by omega) (by omega)).1
        exact ⟨_, t, math_bits_Len64_W x _ ⟨fun h => absurd h c1, fun _ => ⟨fun h => absurd h c2, fun _ => ⟨fun h => absurd h c3, fun _ => ⟨l1, l2, _, rfl, l3, _, rfl, by rw [w64i (by omega) (by omega)]; omega⟩⟩⟩⟩⟩
theorem digit_rest {u u1 Y q : Int} (hY : 0 < Y) (hY2 : Y < 18446744073709551616) (hu : 0 ≤ u) (huY : u < Y) (h1 : 0 ≤ u1) (h2 : u1 < 4294967296) (hq : (u * 4294967296 + u1) / Y = q) :
    IntKind.u64.wrap (IntKind.u64.wrap (IntKind.u64.wrap (u * 4294967296) + u1) - IntKind.u64.wrap (q * Y)) = (u * 4294967296 + u1) % Y := by
  have e := Int.mul_ediv_add_emod (u * 4294967296 + u1) Y
  have m0 := Int.emod_nonneg (u * 4294967296 + u1) (show Y ≠ 0 by omega)
  have m1 := Int.emod_lt_of_pos (u * 4294967296 + u1) hY
  rw [hq, Int.mul_comm] at e
  rw [wU, wU, wU, wU]
  omega
theorem emod_scale (a b : Int) {c : Int} (h : 0 < c) : a * c % (b * c) = a % b * c := by rw [Int.mul_comm a, Int.mul_comm b, Int.mul_emod_mul_of_pos _ _ h, Int.mul_comm]
/-- The division of two words by one. -/
theorem ret_div64 {hi lo y : Int} (hh : 0 ≤ hi) (hhy : hi < y) (hy : y < 18446744073709551616) (hl : 0 ≤ lo) (hl2 : lo < 18446744073709551616) :
    Ret Tryd.prog XS 25 [.sc (.int .u64 hi), .sc (.int .u64 lo), .sc (.int .u64 y)] (.tup [.sc (.int .u64 ((hi * 18446744073709551616 + lo) / y)), .sc (.int .u64 ((hi * 18446744073709551616 + lo) % y))]) := by
  obtain ⟨n, L, hn⟩ := ret_len64 (x := y) (by omega) hy
  obtain ⟨n1, p1, p2⟩ := L.pos (by omega)
  have n64 := L.n64
  have hz : Ret Tryd.prog XS 39 [.sc (.int .u64 y)] (int (64 - n)) := math_bits_LeadingZeros64_W y _ ⟨n, hn, ⟨by omega, by omega⟩, rfl⟩
  -- the shift
  obtain ⟨s, hs⟩ : ∃ s : Nat, (64 : Int) - n = s := ⟨(64 - n).toNat, by omega⟩
  have hs63 : s ≤ 63 := by omega
  have ps : (0 : Int) < 2 ^ s := Int.pow_pos (by decide)
  have pn : (2 : Int) ^ (n.toNat - 1) * 2 ^ s = 9223372036854775808 := by rw [← Int.pow_add, show n.toNat - 1 + s = 63 by omega]; rfl
  have pn2 : (2 : Int) ^ n.toNat * 2 ^ s = 18446744073709551616 := by rw [← Int.pow_add, show n.toNat + s = 64 by omega]; rfl
  have p64 : (2 : Int) ^ (64 - s) * 2 ^ s = 18446744073709551616 := by rw [← Int.pow_add, show 64 - s + s = 64 by omega]; rfl
  have pm : (0 : Int) < 2 ^ (64 - s) := Int.pow_pos (by decide)
  have Yl : 9223372036854775808 ≤ y * 2 ^ s := by rw [← pn]; exact Int.mul_le_mul_of_nonneg_right p1 (Int.le_of_lt ps)
  have Yu : y * 2 ^ s < 18446744073709551616 := by rw [← pn2]; exact Int.mul_lt_mul_of_pos_right p2 ps
  have hY : (hi + 1) * 2 ^ s ≤ y * 2 ^ s := Int.mul_le_mul_of_nonneg_right hhy (Int.le_of_lt ps)
  rw [Int.add_mul, Int.one_mul] at hY
  have hi0 : 0 ≤ hi * 2 ^ s := Int.mul_nonneg hh (Int.le_of_lt ps)
  have lq0 : 0 ≤ lo / 2 ^ (64 - s) := Int.ediv_nonneg hl (Int.le_of_lt pm)
  have lq1 : lo / 2 ^ (64 - s) < 2 ^ s := Int.ediv_lt_of_lt_mul pm (by rw [Int.mul_comm, p64]; exact hl2)
  have lw : lo * 2 ^ s = (lo / 2 ^ (64 - s)) * 18446744073709551616 + lo * 2 ^ s % 18446744073709551616 := by
    have e := Int.mul_ediv_add_emod (lo * 2 ^ s) 18446744073709551616
    have e2 : lo * 2 ^ s / 18446744073709551616 = lo / 2 ^ (64 - s) := by rw [← p64]; exact Int.mul_ediv_mul_of_pos_left _ _ ps
    rw [e2] at e; omega
  have total : (hi * 18446744073709551616 + lo) * 2 ^ s = (hi * 2 ^ s + lo / 2 ^ (64 - s)) * 18446744073709551616 + lo * 2 ^ s % 18446744073709551616 := by
    rw [Int.add_mul, lw, Int.mul_right_comm hi]; omega
  have eshl : ∀ a : Int, shW .u64 a (s : Int) = IntKind.u64.wrap (a * 2 ^ s) := fun a => by
    unfold shW
    rw [Int.toNat_natCast, show min s IntKind.u64.bits = s from Nat.min_eq_left (show s ≤ 64 by omega)]
  have eshr : ∀ a : Int, 0 ≤ a → shR .u64 a ((64 : Int) - s) = a / 2 ^ (64 - s) := fun a ha => by
    rw [shR_eq ha, show min ((64 : Int) - s).toNat 64 = 64 - s by omega]
  have eshr2 : ∀ a : Int, 0 ≤ a → shR .u64 a (s : Int) = a / 2 ^ s := fun a ha => by
    rw [shR_eq ha, show min (s : Int).toNat 64 = s by omega]
  generalize hYe : y * 2 ^ s = Y at *
  generalize hwe : lo * 2 ^ s % 18446744073709551616 = w at *
  have w0 : 0 ≤ w ∧ w < 18446744073709551616 := by omega
  generalize hue : hi * 2 ^ s + lo / 2 ^ (64 - s) = u at *
  have u0 : 0 ≤ u := by omega
  have uY : u < Y := by omega
  have td := two_digits (u := u) (u1 := w / 4294967296) (u0 := w % 4294967296) (y := Y) (by omega) (by omega) (by omega)
  rw [show w / 4294967296 * 4294967296 + w % 4294967296 = w by omega, ← total, ← hYe, Int.mul_ediv_mul_of_pos_left _ _ ps, emod_scale _ _ ps, hYe] at td
  have eY : Y / 4294967296 * 4294967296 + Y % 4294967296 = Y := by omega
  have m0 := Int.emod_nonneg (u * 4294967296 + w / 4294967296) (show Y ≠ 0 by omega)
  have m1 := Int.emod_lt_of_pos (u * 4294967296 + w / 4294967296) (show 0 < Y by omega)
  have Q1 : 0 ≤ (u * 4294967296 + w / 4294967296) / Y ∧ (u * 4294967296 + w / 4294967296) / Y < 4294967296 := ⟨Int.ediv_nonneg (by omega) (by omega), quot_lt (by omega) uY (by omega)⟩
  have Q0 : 0 ≤ ((u * 4294967296 + w / 4294967296) % Y * 4294967296 + w % 4294967296) / Y ∧ ((u * 4294967296 + w / 4294967296) % Y * 4294967296 + w % 4294967296) / Y < 4294967296 := ⟨Int.ediv_nonneg (by omega) (by omega), quot_lt (by omega) m1 (by omega)⟩
  refine math_bits_Div64_W hi lo y _ _
    (fun z x1 x2 x3 x7 x9 x10 q r => z = s ∧ Y = x1 ∧ x2 = Y / 4294967296 ∧ x3 = Y % 4294967296 ∧ u = x7 ∧ x9 = w / 4294967296 ∧ x10 = w % 4294967296 ∧ Digit (Y / 4294967296) (Y % 4294967296) u (w / 4294967296) q r) (fun z x1 x2 x3 x7 x9 x10 q r => q.toNat)
    (fun z x1 x2 x3 x10 q1 r un q => z = s ∧ Y = x1 ∧ x2 = Y / 4294967296 ∧ x3 = Y % 4294967296 ∧ x10 = w % 4294967296 ∧ q1 = (u * 4294967296 + w / 4294967296) / Y ∧ un = (u * 4294967296 + w / 4294967296) % Y ∧ Digit (Y / 4294967296) (Y % 4294967296) ((u * 4294967296 + w / 4294967296) % Y) (w % 4294967296) q r) (fun z x1 x2 x3 x10 q1 r un q => q.toNat)
    ⟨fun h => by omega, fun _ => ⟨fun h => by omega, fun _ => ⟨fun h0 => ?_, fun h0 => ?_⟩⟩⟩ ?_ ?_
  · subst h0
    have e1 : (0 * 18446744073709551616 + lo) = lo := by omega
    rw [e1, Int.tdiv_eq_ediv_of_nonneg hl]
    have := Int.ediv_le_self y hl
    have := Int.ediv_nonneg hl (show 0 ≤ y by omega)
    exact ⟨by omega, ⟨by omega, by omega⟩, _, rfl, _, Int.tmod_eq_emod_of_nonneg hl |>.symm ▸ rfl, rfl, rfl⟩
  · have d := digit_first (y1 := Y / 4294967296) (y0 := Y % 4294967296) (u := u) (u1 := w / 4294967296) (by omega) (by omega) (by omega) u0 (by omega) (by omega)
    have dq := d.q0; have dr := d.r0
    have e7 : u.tdiv (Y / 4294967296) = u / (Y / 4294967296) := Int.tdiv_eq_ediv_of_nonneg u0
    have du := d.eu
    have dp := Int.mul_nonneg dq (show 0 ≤ Y / 4294967296 by omega)
    refine ⟨_, hz, ⟨by omega, by omega⟩, by omega, Y, ?_, Y / 4294967296, (shR32 (by omega)).symm, Y % 4294967296, (bAnd_mask (by omega) (by omega)).symm, hi * 2 ^ s, ?_, (64 : Int) - s, ?_, by omega, _, (eshr lo hl).symm, u, ?_, w, ?_, w / 4294967296, (shR32 (by omega)).symm, w % 4294967296, (bAnd_mask (by omega) (by omega)).symm, by omega, ?_, u / (Y / 4294967296), e7.symm, u / (Y / 4294967296) * (Y / 4294967296), ?_, u - u / (Y / 4294967296) * (Y / 4294967296), ?_, by omega, rfl, rfl, rfl, rfl, rfl, rfl, d⟩
    · rw [hs, eshl, hYe, wU_id (by omega) (by omega)]
    · rw [hs, eshl, wU_id (by omega) (by omega)]
    · rw [hs, wU_id (by omega) (by omega)]
    · have := bOr_add (a := hi) (b := lo / 2 ^ (64 - s)) (s := s) hh (by omega) lq0 lq1
      rw [show hi * 2 ^ s % 18446744073709551616 = hi * 2 ^ s by omega] at this
      rw [this, hue]
    · rw [hs, eshl, wU, hwe]
    · rw [e7]; exact ⟨dq, by have := d.q1; omega⟩
    · rw [wU_id (by omega) (by omega)]
    · rw [wU_id (by omega) (by omega)]
  · rintro z x1 x2 x3 x7 x9 x10 q r ⟨rfl, rfl, rfl, rfl, rfl, rfl, rfl, D⟩
    have dq0 := D.q0; have dq1 := D.q1; have dr0 := D.r0; have dr1 := D.r1
    have fin : ∀ q', (u * 4294967296 + w / 4294967296) / Y = q' → (∃ (x3_1 : Int), x3_1 = (IntKind.wrap .u64 (u * 4294967296)) ∧ (∃ (x4_1 : Int), x4_1 = (IntKind.wrap .u64 (x3_1 + w / 4294967296)) ∧ (∃ (x5_1 : Int), x5_1 = (IntKind.wrap .u64 (q' * Y)) ∧ (∃ (x6_1 : Int), x6_1 = (IntKind.wrap .u64 (x4_1 - x5_1)) ∧ (Y / 4294967296 ≠ 0) ∧ (InU64 (x6_1.tdiv (Y / 4294967296))) ∧ (∃ (x7_1 : Int), x7_1 = (x6_1.tdiv (Y / 4294967296)) ∧ (∃ (x8_1 : Int), x8_1 = (IntKind.wrap .u64 (x7_1 * (Y / 4294967296))) ∧ (∃ (x9_1 : Int), x9_1 = (IntKind.wrap .u64 (x6_1 - x8_1)) ∧
        ((s : Int) = s ∧ Y = Y ∧ Y / 4294967296 = Y / 4294967296 ∧ Y % 4294967296 = Y % 4294967296 ∧ w % 4294967296 = w % 4294967296 ∧ q' = (u * 4294967296 + w / 4294967296) / Y ∧ x6_1 = (u * 4294967296 + w / 4294967296) % Y ∧ Digit (Y / 4294967296) (Y % 4294967296) ((u * 4294967296 + w / 4294967296) % Y) (w % 4294967296) x7_1 x9_1)))))))) := fun q' hq' => by
      have rest := digit_rest (u := u) (u1 := w / 4294967296) (Y := Y) (q := q') (by omega) Yu u0 uY (by omega) (by omega) hq'
      have d := digit_first (y1 := Y / 4294967296) (y0 := Y % 4294967296) (u := (u * 4294967296 + w / 4294967296) % Y) (u1 := w % 4294967296) (by omega) (by omega) (by omega) m0 (by omega) (by omega)
      have a0 := d.q0; have a1 := d.q1; have a2 := d.r0; have a3 := d.eu
      have a4 := Int.mul_nonneg a0 (show 0 ≤ Y / 4294967296 by omega)
      have e7 : ((u * 4294967296 + w / 4294967296) % Y).tdiv (Y / 4294967296) = (u * 4294967296 + w / 4294967296) % Y / (Y / 4294967296) := Int.tdiv_eq_ediv_of_nonneg m0
      refine ⟨_, rfl, _, rfl, _, rfl, (u * 4294967296 + w / 4294967296) % Y, rest.symm, by omega, ?_, _, e7.symm, (u * 4294967296 + w / 4294967296) % Y / (Y / 4294967296) * (Y / 4294967296), ?_, (u * 4294967296 + w / 4294967296) % Y - (u * 4294967296 + w / 4294967296) % Y / (Y / 4294967296) * (Y / 4294967296), ?_, rfl, rfl, rfl, rfl, rfl, hq'.symm, rfl, d⟩
      · rw [e7]; exact ⟨a0, by omega⟩
      · rw [wU_id (by omega) (by omega)]
      · rw [wU_id (by omega) (by omega)]
    have down : (4294967296 ≤ q ∨ 4294967296 * r + w / 4294967296 < q * (Y % 4294967296)) → ∃ (x1_1 : Int), x1_1 = (IntKind.wrap .u64 (q - 1)) ∧ x1_1 = q - 1 ∧ ∃ (x2_1 : Int), x2_1 = (IntKind.wrap .u64 (r + Y / 4294967296)) ∧ x2_1 = r + Y / 4294967296 ∧ (x2_1 ≥ 4294967296 → (u * 4294967296 + w / 4294967296) / Y = q - 1) ∧ (¬ x2_1 ≥ 4294967296 → Digit (Y / 4294967296) (Y % 4294967296) u (w / 4294967296) (q - 1) (r + Y / 4294967296) ∧ (q - 1).toNat < q.toNat) := fun hc => by
      have dd := digit_down D (by omega) (by omega) (by omega) (by omega) hc (by omega) (by omega)
      refine ⟨_, rfl, wU_id (by omega) (by omega), _, rfl, wU_id (by omega) (by omega), fun hr => ?_, fun hr => ⟨digit_next D dd (by rw [wU_id (by omega) (by omega)] at hr; omega) (by omega), by omega⟩⟩
      rw [wU_id (by omega) (by omega)] at hr
      have := digit_break D dd (by omega) (by omega) (by omega) (by omega) (by omega) (by omega) (by omega) (by omega)
      rwa [eY] at this
    refine ⟨fun hq => ?_, fun hq => ?_⟩
    · obtain ⟨a, ha, ha', b, hb, hb', f1, f2⟩ := down (.inl hq)
      exact ⟨a, ha, b, hb, fun hr => fin a (by rw [ha']; exact f1 hr), fun hr => ⟨⟨rfl, rfl, rfl, rfl, rfl, rfl, rfl, by rw [ha', hb']; exact (f2 hr).1⟩, by rw [ha']; exact (f2 hr).2⟩⟩
    · have q0 : 0 ≤ q * (Y % 4294967296) ∧ q * (Y % 4294967296) ≤ 18446744065119617025 := half_prod (by omega) (by omega) (by omega) (by omega)
      refine ⟨q * (Y % 4294967296), (wU_id (by omega) (by omega)).symm, 4294967296 * r, (wU_id (by omega) (by omega)).symm, 4294967296 * r + w / 4294967296, (wU_id (by omega) (by omega)).symm, fun hc => ?_, fun hc => fin q ?_⟩
      · obtain ⟨a, ha, ha', b, hb, hb', f1, f2⟩ := down (.inr hc)
        exact ⟨a, ha, b, hb, fun hr => fin a (by rw [ha']; exact f1 hr), fun hr => ⟨⟨rfl, rfl, rfl, rfl, rfl, rfl, rfl, by rw [ha', hb']; exact (f2 hr).1⟩, by rw [ha']; exact (f2 hr).2⟩⟩
      · have := digit_done D (by omega) (by omega) (by omega)
        rwa [eY] at this
  · rintro z x1 x2 x3 x10 q1 r un q ⟨rfl, rfl, rfl, rfl, rfl, rfl, rfl, D⟩
    have dq0 := D.q0; have dq1 := D.q1; have dr0 := D.r0; have dr1 := D.r1
    generalize hq1 : (u * 4294967296 + w / 4294967296) / Y = q1 at *
    generalize hr1 : (u * 4294967296 + w / 4294967296) % Y = r1 at *
    have fin : ∀ q', (r1 * 4294967296 + w % 4294967296) / Y = q' → (∃ (x3_2 : Int), x3_2 = (IntKind.wrap .u64 (q1 * 4294967296)) ∧ (∃ (x4_2 : Int), x4_2 = (IntKind.wrap .u64 (x3_2 + q')) ∧ (∃ (x5_2 : Int), x5_2 = (IntKind.wrap .u64 (r1 * 4294967296)) ∧ (∃ (x6_2 : Int), x6_2 = (IntKind.wrap .u64 (x5_2 + w % 4294967296)) ∧ (∃ (x7_2 : Int), x7_2 = (IntKind.wrap .u64 (q' * Y)) ∧ (∃ (x8_2 : Int), x8_2 = (IntKind.wrap .u64 (x6_2 - x7_2)) ∧ (0 ≤ (s : Int)) ∧ (∃ (x9_2 : Int), x9_2 = (shR .u64 x8_2 (s : Int)) ∧ (hi * 18446744073709551616 + lo) / y = x4_2 ∧ (hi * 18446744073709551616 + lo) % y = x9_2))))))) := fun q' hq' => by
      have rest := digit_rest (u := r1) (u1 := w % 4294967296) (Y := Y) (q := q') (by omega) Yu m0 m1 (by omega) (by omega) hq'
      rw [hq'] at Q0 td
      have z0 := Int.emod_nonneg (r1 * 4294967296 + w % 4294967296) (show Y ≠ 0 by omega)
      refine ⟨q1 * 4294967296, (wU_id (by omega) (by omega)).symm, q1 * 4294967296 + q', (wU_id (by omega) (by omega)).symm, _, rfl, _, rfl, _, rfl, (r1 * 4294967296 + w % 4294967296) % Y, rest.symm, by omega, _, (eshr2 _ z0).symm, td.1, ?_⟩
      rw [← td.2, Int.mul_ediv_cancel _ (by omega)]
    have down : (4294967296 ≤ q ∨ 4294967296 * r + w % 4294967296 < q * (Y % 4294967296)) → ∃ (x1_1 : Int), x1_1 = (IntKind.wrap .u64 (q - 1)) ∧ x1_1 = q - 1 ∧ ∃ (x2_1 : Int), x2_1 = (IntKind.wrap .u64 (r + Y / 4294967296)) ∧ x2_1 = r + Y / 4294967296 ∧ (x2_1 ≥ 4294967296 → (r1 * 4294967296 + w % 4294967296) / Y = q - 1) ∧ (¬ x2_1 ≥ 4294967296 → Digit (Y / 4294967296) (Y % 4294967296) r1 (w % 4294967296) (q - 1) (r + Y / 4294967296) ∧ (q - 1).toNat < q.toNat) := fun hc => by
      have dd := digit_down D (by omega) (by omega) (by omega) (by omega) hc (by omega) (by omega)
      refine ⟨_, rfl, wU_id (by omega) (by omega), _, rfl, wU_id (by omega) (by omega), fun hr => ?_, fun hr => ⟨digit_next D dd (by rw [wU_id (by omega) (by omega)] at hr; omega) (by omega), by omega⟩⟩
      rw [wU_id (by omega) (by omega)] at hr
      have := digit_break D dd (by omega) (by omega) (by omega) (by omega) (by omega) (by omega) (by omega) (by omega)
      rwa [eY] at this
    refine ⟨fun hq => ?_, fun hq => ?_⟩
    · obtain ⟨a, ha, ha', b, hb, hb', f1, f2⟩ := down (.inl hq)
      exact ⟨a, ha, b, hb, fun hr => fin a (by rw [ha']; exact f1 hr), fun hr => ⟨⟨rfl, rfl, rfl, rfl, rfl, rfl, rfl, by rw [ha', hb']; exact (f2 hr).1⟩, by rw [ha']; exact (f2 hr).2⟩⟩
    · have q0 : 0 ≤ q * (Y % 4294967296) ∧ q * (Y % 4294967296) ≤ 18446744065119617025 := half_prod (by omega) (by omega) (by omega) (by omega)
      refine ⟨q * (Y % 4294967296), (wU_id (by omega) (by omega)).symm, 4294967296 * r, (wU_id (by omega) (by omega)).symm, 4294967296 * r + w % 4294967296, (wU_id (by omega) (by omega)).symm, fun hc => ?_, fun hc => fin q ?_⟩
      · obtain ⟨a, ha, ha', b, hb, hb', f1, f2⟩ := down (.inr hc)
        exact ⟨a, ha, b, hb, fun hr => fin a (by rw [ha']; exact f1 hr), fun hr => ⟨⟨rfl, rfl, rfl, rfl, rfl, rfl, rfl, by rw [ha', hb']; exact (f2 hr).1⟩, by rw [ha']; exact (f2 hr).2⟩⟩
      · have := digit_done D (by omega) (by omega) (by omega)
        rwa [eY] at this
end Go.Ab
end

section
namespace Go.Ab
open Go.Proofs
set_option maxRecDepth 10000
set_option linter.unusedVariables false

/-- at * to / fr, halves upwards. -/
def parQ (fr to at_ : Int) : Int := if fr ≤ 2 * (at_ * to % fr) then at_ * to / fr + 1 else at_ * to / fr
def parBad (fr to at_ : Int) : Prop := fr < 1 ∨ 1099511627776 < fr ∨ to < 0 ∨ 1099511627776 < to ∨ at_ < 0 ∨ fr < at_
instance (fr to at_ : Int) : Decidable (parBad fr to at_) := by unfold parBad; infer_instance
def parE (fr to at_ : Int) : Int := if parBad fr to at_ then 3 else 0
def parV (fr to : Int) (rev : Bool) (at_ : Int) : Int := if parBad fr to at_ then 0 else if rev = true then to - parQ fr to at_ else parQ fr to at_
theorem par_quot {fr to at_ : Int} (h : ¬ parBad fr to at_) : 0 ≤ at_ * to / fr ∧ at_ * to / fr ≤ to ∧ 0 ≤ at_ * to % fr ∧ at_ * to % fr < fr ∧ (0 < at_ * to % fr → at_ * to / fr + 1 ≤ to) ∧ at_ * to ≤ fr * to ∧ 0 ≤ at_ * to := by
  unfold parBad at h
  have h1 : 0 ≤ at_ * to := Int.mul_nonneg (by omega) (by omega)
  have h2 : at_ * to ≤ fr * to := Int.mul_le_mul_of_nonneg_right (by omega) (by omega)
  have e := Int.mul_ediv_add_emod (at_ * to) fr
  have m0 := Int.emod_nonneg (at_ * to) (show fr ≠ 0 by omega)
  have m1 := Int.emod_lt_of_pos (at_ * to) (show 0 < fr by omega)
  have q0 := Int.ediv_nonneg h1 (show 0 ≤ fr by omega)
  have lt : ∀ q : Int, fr * q + at_ * to % fr = at_ * to → 0 < at_ * to % fr → q + 1 ≤ to := fun q hq hp => by
    apply Classical.byContradiction; intro hn
    have := Int.mul_le_mul_of_nonneg_left (show to ≤ q by omega) (show 0 ≤ fr by omega)
    omega
  have le : at_ * to / fr ≤ to := by
    have := Int.ediv_le_ediv (show 0 < fr by omega) h2
    rwa [Int.mul_ediv_cancel_left _ (by omega)] at this
  exact ⟨q0, le, m0, m1, fun hp => lt _ e hp, h2, h1⟩
theorem parQ_range {fr to at_ : Int} (h : ¬ parBad fr to at_) : 0 ≤ parQ fr to at_ ∧ parQ fr to at_ ≤ to := by
  obtain ⟨a, b, c, d, e, f, g⟩ := par_quot h
  unfold parBad at h
  unfold parQ
  split
  · have := e (by omega); omega
  · omega
theorem ret_partner (fr to : Int) (rev : Bool) (at_ : Int) : Ret Tryd.prog XS 10 [int fr, int to, boo rev, int at_] (.tup [int (parV fr to rev at_), int (parE fr to at_)]) := by
  have bad : parBad fr to at_ → parV fr to rev at_ = 0 ∧ parE fr to at_ = 3 := fun h => ⟨if_pos h, if_pos h⟩
  refine seam_Partner_W fr to rev at_ _ _ ⟨fun h => bad (.inl h), fun h1 => ⟨fun h => bad (.inr (.inl h)), fun h2 => ⟨fun h => bad (.inr (.inr (.inl h))), fun h3 => ⟨fun h => bad (.inr (.inr (.inr (.inl h)))), fun h4 => ⟨fun h => bad (.inr (.inr (.inr (.inr (.inl h))))), fun h5 => ⟨fun h => bad (.inr (.inr (.inr (.inr (.inr h))))), fun h6 => ?_⟩⟩⟩⟩⟩⟩
  have hb : ¬ parBad fr to at_ := by unfold parBad; omega
  obtain ⟨a, b, c, d, e, f, g⟩ := par_quot hb
  have hi : at_ * to / 18446744073709551616 < fr := by
    have : fr * to ≤ fr * 1099511627776 := Int.mul_le_mul_of_nonneg_left (by omega) (by omega)
    omega
  have whole : at_ * to / 18446744073709551616 * 18446744073709551616 + at_ * to % 18446744073709551616 = at_ * to := by omega
  have hd := ret_div64 (hi := at_ * to / 18446744073709551616) (lo := at_ * to % 18446744073709551616) (y := fr) (by omega) hi (by omega) (by omega) (by omega)
  rw [whole] at hd
  have ev : parV fr to rev at_ = if rev = true then to - parQ fr to at_ else parQ fr to at_ := if_neg hb
  have ee : parE fr to at_ = 0 := if_neg hb
  refine ⟨⟨by omega, by omega⟩, ⟨by omega, by omega⟩, _, _, ret_mul64 ⟨by omega, by omega⟩ ⟨by omega, by omega⟩, ⟨by omega, by omega⟩, _, _, hd, ⟨by omega, by omega⟩, fun hr => ?_, fun hr => ?_⟩
  · have eq : parQ fr to at_ = at_ * to / fr + 1 := if_pos (by omega)
    have := e (by omega)
    refine ⟨⟨by omega, by omega⟩, fun h => ⟨⟨by omega, by omega⟩, ⟨by omega, by omega⟩, by rw [ev, if_pos h, eq], ee⟩, fun h => ⟨⟨by omega, by omega⟩, by rw [ev, if_neg (by simp [h]), eq], ee⟩⟩
  · have eq : parQ fr to at_ = at_ * to / fr := if_neg (by omega)
    exact ⟨fun h => ⟨⟨by omega, by omega⟩, ⟨by omega, by omega⟩, by rw [ev, if_pos h, eq], ee⟩, fun h => ⟨⟨by omega, by omega⟩, by rw [ev, if_neg (by simp [h]), eq], ee⟩⟩
end Go.Ab
end
