/- slices.Reverse at edges, as the machine runs it. -/
import Derived.Test.YtmdeiagmlabfmaaGreatDoorAbRd
import Derived.Test.YtmdeiagmlabfmaaGreatDoorProg
import Derived.WalkKit
import Derived.BigRegion
import Derived.Deep.LoopGhost
set_option linter.unusedVariables false
set_option linter.unusedSimpArgs false
set_option linter.unusedSectionVars false

namespace Go.Ab
open Go.Proofs Go.RowKit
set_option maxRecDepth 1000000
set_option maxHeartbeats 4000000

theorem setRow_setRow (w : World) (g : Nat) (a b : Array Value) : (w.setRow g a).setRow g b = w.setRow g b := by
  unfold World.setRow
  congr 1
  apply Array.ext_getElem?
  intro i
  simp only [Array.getElem?_modify]
  split
  · cases w.heap[i]? with
    | none => rfl
    | some o => cases o <;> rfl
  · rfl
theorem setCell_row (w : World) (g : Nat) (c0 c : Array Value) (t : TypeId) (k : Nat) (v : Value) (h : w.heap[g]? = some (.cells c0 t (0, 0))) : (w.setRow g c).setCell ⟨g, k, none⟩ v = w.setRow g (c.setIfInBounds k v) := by
  rw [setCell_eq_setRow _ g k c t (0, 0) v (setRow_heap w g c0 c t (0, 0) h), setRow_setRow]

theorem rev44 (b o n cap : Nat) (c : Array Value) (t : TypeId) (w : World) (h0 : 0 < n) (hn : n ≤ 9223372036854775807) (hcap : n ≤ cap) (hb : w.heap[b]? = some (.cells c t (0, 0))) (hsz : o + n * 2 ≤ c.size)
  (hone : ∀ k v, o ≤ k → k < o + n * 2 → c[k]? = some v → v.oneCell' = true) :
  Calls Tryz.prog 44 #[.slice (some ⟨b, o, none⟩) n cap] w fun e w' => e = .returned (.tuple #[]) ∧ ∃ q c', w' = (w.drewN q).setRow b c' ∧ c'.size = c.size ∧
    (∀ i j, i < n → j < 2 → c'[o + i * 2 + j]? = c[o + (n - 1 - i) * 2 + j]?) ∧ (∀ k, k < o ∨ o + n * 2 ≤ k → c'[k]? = c[k]?) := by
  go_enter Tryz.func44, Tryz.ntmps44
  go_wp2
  go_loopg [2, 3] n (fun k s2 s3 wr => ∃ (i : Nat) (c' : Array Value) (q : Nat), s2 = .int .i64 i ∧ s3 = .int .i64 ((n : Int) - 1 - i) ∧ i ≤ n ∧ n - i ≤ k ∧ wr = (w.drewN q).setRow b c' ∧ c'.size = c.size ∧
    (∀ r j, r < n → j < 2 → c'[o + r * 2 + j]? = if r < i ∨ n - 1 - i < r then c[o + (n - 1 - r) * 2 + j]? else c[o + r * 2 + j]?) ∧ (∀ p, p < o ∨ o + n * 2 ≤ p → c'[p]? = c[p]?))
  case atStart => 
    refine ⟨0, c, 0, rfl, by simp, by omega, by omega, ?_, rfl, fun r j hr hj => ?_, fun _ _ => rfl⟩
    · rw [World.drewN_zero, setRow_self w b c t (0, 0) hb]
    · rw [if_neg (by omega)]
  case round =>
    obtain ⟨i, c', q, rfl, rfl, hi, hk, hwr, hs', hin, hout⟩ := hrel
    by_cases hlt : (i : Int) < (n : Int) - 1 - i
    · have hheap : wr.heap[b]? = some (.cells c' t (0, 0)) := by rw [hwr]; exact setRow_heap _ b c c' t (0, 0) hb
      obtain ⟨m, hm⟩ : ∃ m : Nat, (m : Int) = (n : Int) - 1 - i := ⟨n - 1 - i, by omega⟩
      have get : ∀ k, k < c.size → ∃ v, c'[k]? = some v := fun k hk => ⟨_, Array.getElem?_eq_getElem (by omega)⟩
      have cel : ∀ k v, c'[k]? = some v → wr.cell? ⟨b, k, none⟩ = some v := fun k v hv => by rw [cell_at hheap]; exact hv
      have fro : ∀ k, wr.frozen? ⟨b, k, none⟩ = false := fun k => by simp [World.frozen?, hheap]
      have i2 : (i + 1) * 2 ≤ n * 2 := Nat.mul_le_mul_right 2 (by omega)
      have m2 : (m + 1) * 2 ≤ n * 2 := Nat.mul_le_mul_right 2 (by omega)
      obtain ⟨x0, hx0⟩ := get (o + i * 2) (by omega)
      obtain ⟨x1, hx1⟩ := get (o + i * 2 + 1) (by omega)
      obtain ⟨y0, hy0⟩ := get (o + m * 2) (by omega)
      obtain ⟨y1, hy1⟩ := get (o + m * 2 + 1) (by omega)
      have cx0 := cel _ _ hx0
      have cx1 := cel _ _ hx1
      have cy0 := cel _ _ hy0
      have cy1 := cel _ _ hy1
      have fx0 := fro (o + i * 2)
      have fx1 := fro (o + i * 2 + 1)
      have fy0 := fro (o + m * 2)
      have fy1 := fro (o + m * 2 + 1)
      have one : ∀ r j v, r < n → j < 2 → c'[o + r * 2 + j]? = some v → v.oneCell' = true := by
        intro r j v hr hj hv
        rw [hin r j hr hj] at hv
        split at hv
        · have := Nat.mul_le_mul_right 2 (show n - 1 - r + 1 ≤ n by omega)
          exact hone _ v (by omega) (by omega) hv
        · have := Nat.mul_le_mul_right 2 (show r + 1 ≤ n by omega)
          exact hone _ v (by omega) (by omega) hv
      have ox0 : x0.oneCell' = true := one i 0 _ (by omega) (by omega) hx0
      have ox1 : x1.oneCell' = true := one i 1 _ (by omega) (by omega) hx1
      have oy0 : y0.oneCell' = true := one m 0 _ (by omega) (by omega) hy0
      have oy1 : y1.oneCell' = true := one m 1 _ (by omega) (by omega) hy1
      have st : ∀ (W : World) (k : Nat) (cc : Array Value) (v : Value), W.heap[b]? = some (.cells cc t (0, 0)) → k < cc.size → v.oneCell' = true → Sem.run Tryz.prog (store ⟨b, k, none⟩ v) W = .ok () (W.setCell ⟨b, k, none⟩ v) := by
        intro W k cc v hW hk h1
        rw [run_store _ _ _ _ _ h1, cell_at hW, Array.getElem?_eq_getElem hk]
        simp [World.frozen?, hW]
      have hp : ∀ (W : World) (k : Nat) (cc : Array Value) (v : Value), W.heap[b]? = some (.cells cc t (0, 0)) → (W.setCell ⟨b, k, none⟩ v).heap[b]? = some (.cells (cc.setIfInBounds k v) t (0, 0)) := by
        intro W k cc v hW
        rw [setCell_eq_setRow W b k cc t (0, 0) v hW]
        exact setRow_heap _ b cc _ t (0, 0) hW
      have hd : wr.drew.heap[b]? = some (.cells c' t (0, 0)) := hheap
      have s1 := st _ (o + i * 2) _ y0 hd (by omega) oy0
      have hd1 : (wr.setCell ⟨b, o + i * 2, none⟩ y0).drew.heap[b]? = _ := hp _ (o + i * 2) _ y0 hd
      have s2 := st _ (o + i * 2 + 1) _ y1 hd1 (by simp; omega) oy1
      have hd2 : ((wr.setCell ⟨b, o + i * 2, none⟩ y0).setCell ⟨b, o + i * 2 + 1, none⟩ y1).drew.heap[b]? = _ := hp _ (o + i * 2 + 1) _ y1 hd1
      have s3 := st _ (o + m * 2) _ x0 hd2 (by simp; omega) ox0
      have hd3 : (((wr.setCell ⟨b, o + i * 2, none⟩ y0).setCell ⟨b, o + i * 2 + 1, none⟩ y1).setCell ⟨b, o + m * 2, none⟩ x0).drew.heap[b]? = _ := hp _ (o + m * 2) _ x0 hd2
      have s4 := st _ (o + m * 2 + 1) _ x1 hd3 (by simp; omega) ox1
      clear st hp hd hd1 hd2 hd3
      have g1 : (i : Int) < (m : Int) := by omega
      have g2 : (m : Int) < (n : Int) := by omega
      have g3 : (i : Int) < (n : Int) := by omega
      have hm0 : m = n - 1 - i := by omega
      rw [← hm] at *
      have A : Aside (wr = (w.drewN q).setRow b c' ∧ c'.size = c.size ∧ (∀ r j, r < n → j < 2 → c'[o + r * 2 + j]? = if r < i ∨ n - 1 - i < r then c[o + (n - 1 - r) * 2 + j]? else c[o + r * 2 + j]?) ∧ (∀ p, p < o ∨ o + n * 2 ≤ p → c'[p]? = c[p]?) ∧ wr.heap[b]? = some (.cells c' t (0, 0)) ∧
        c'[o + i * 2]? = some x0 ∧ c'[o + i * 2 + 1]? = some x1 ∧ c'[o + m * 2]? = some y0 ∧ c'[o + m * 2 + 1]? = some y1 ∧ m = n - 1 - i ∧ w.heap[b]? = some (.cells c t (0, 0))) := ⟨hwr, hs', hin, hout, hheap, hx0, hx1, hy0, hy1, hm0, hb⟩
      clear hwr hs' hin hout hheap hx0 hx1 hy0 hy1 get cel fro one hsz hb hone hlt hm0
      go_wp2_with fail
      go_region
      all_goals go_wp2
      obtain ⟨hwr, hs', hin, hout, hheap, hx0, hx1, hy0, hy1, hm0, hb⟩ := A.out
      go_roundg (n - (i + 1))
      case measure => omega
      case rel =>
        refine ⟨i + 1, (((c'.setIfInBounds (o + i * 2) y0).setIfInBounds (o + i * 2 + 1) y1).setIfInBounds (o + m * 2) x0).setIfInBounds (o + m * 2 + 1) x1, q + 1, by simp, by simp; omega, by omega, Nat.le_refl _, ?_, by simp [hs'], ?_, ?_⟩
        · have e : ∀ k v cc, (((w.drewN q).setRow b cc).setCell ⟨b, k, none⟩ v) = (w.drewN q).setRow b (cc.setIfInBounds k v) := fun k v cc => setCell_row (w.drewN q) b c cc t k v hb
          rw [hwr, e, e, e, e]
          rfl
        · intro r j hr hj
          have h1 := hin r j hr hj
          have q0 := hin m 0 (by omega) (by omega)
          have q1 := hin m 1 (by omega) (by omega)
          have q2 := hin i 0 (by omega) (by omega)
          have q3 := hin i 1 (by omega) (by omega)
          rw [if_neg (by omega)] at q0 q1 q2 q3
          simp only [Nat.add_zero] at q0 q2
          rw [hy0] at q0; rw [hy1] at q1; rw [hx0] at q2; rw [hx1] at q3
          have hmi : n - 1 - i = m := by omega
          have him : n - 1 - m = i := by omega
          have b1 : o + i * 2 + 1 < c'.size := (Array.getElem?_eq_some_iff.1 hx1).1
          have b2 : o + m * 2 + 1 < c'.size := (Array.getElem?_eq_some_iff.1 hy1).1
          simp only [Array.getElem?_setIfInBounds, Array.size_setIfInBounds]
          by_cases hri : r = i
          · subst hri
            have hR : r < r + 1 ∨ n - 1 - (r + 1) < r := .inl (by omega)
            rw [if_pos hR, hmi]
            rcases (show j = 0 ∨ j = 1 by omega) with rfl | rfl
            · rw [if_neg (by omega), if_neg (by omega), if_neg (by omega), if_pos (by omega), if_pos (by omega)]; exact q0
            · rw [if_neg (by omega), if_neg (by omega), if_pos (by omega), if_pos (by omega)]; exact q1
          · by_cases hrm : r = m
            · subst hrm
              have hR : r < i + 1 ∨ n - 1 - (i + 1) < r := .inr (by omega)
              rw [if_pos hR, him]
              rcases (show j = 0 ∨ j = 1 by omega) with rfl | rfl
              · rw [if_neg (by omega), if_pos (by omega), if_pos (by omega)]; exact q2
              · rw [if_pos (by omega), if_pos (by omega)]; exact q3
            · rw [if_neg (by omega), if_neg (by omega), if_neg (by omega), if_neg (by omega), h1]
              by_cases hc : r < i ∨ n - 1 - i < r
              · have hR : r < i + 1 ∨ n - 1 - (i + 1) < r := by omega
                rw [if_pos hc, if_pos hR]
              · have hR : ¬ (r < i + 1 ∨ n - 1 - (i + 1) < r) := by omega
                rw [if_neg hc, if_neg hR]
        · intro p hp
          have i2 : (i + 1) * 2 ≤ n * 2 := Nat.mul_le_mul_right 2 (by omega)
          have m2 : (m + 1) * 2 ≤ n * 2 := Nat.mul_le_mul_right 2 (by omega)
          simp only [Array.getElem?_setIfInBounds]
          rw [if_neg (by omega), if_neg (by omega), if_neg (by omega), if_neg (by omega)]
          exact hout p hp
    · go_wp2
      go_end0
      refine ⟨rfl, q, c', rfl, hs', fun r j hr hj => ?_, hout⟩
      rw [hin r j hr hj]
      split
      · rfl
      · congr 1
        have : n - 1 - r = r := by omega
        rw [this]
end Go.Ab
