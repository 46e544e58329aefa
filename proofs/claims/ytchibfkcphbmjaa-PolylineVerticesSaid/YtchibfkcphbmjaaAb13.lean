/- The abstract interpreter: stores, slices of slices, the rest. -/
import Derived.Test.YtchibfkcphbmjaaAb12
set_option linter.unusedVariables false
set_option linter.unusedSimpArgs false
set_option linter.unusedSectionVars false

namespace Go.Ab
open Go.RowKit (Below)

theorem splice_get {l v : List Value} {p q : Nat} (hp : p + v.length ≤ l.length) : (l.take p ++ v ++ l.drop (p + v.length))[q]? = if q < p then l[q]? else if q < p + v.length then v[q - p]? else l[q]? := by
  simp only [List.append_assoc, List.getElem?_append, List.length_take, List.getElem?_take, List.getElem?_drop]
  have e : min p l.length = p := by omega
  rw [e]
  by_cases h1 : q < p
  · simp [h1]
  · rw [if_neg h1, if_neg h1]
    by_cases h2 : q < p + v.length
    · rw [if_pos (by omega), if_pos h2]
    · rw [if_neg (by omega), if_neg h2]
      congr 1
      omega

theorem store_sound {E : Env} {P : Program} {w0 : World} {okb : Nat → Prop} {s : AS} {t : TypeId} {p v : AV} {x y : Value} {r : Res} (hF : Frm E w0 okb) (hM : MemRel E w0.heap.size s.mem)
    (hx : Rep E p x) (hy : Rep E v y) (h : storeE P s t p v = some r) : ∃ E', (Instr.storeAt t x y).run P E.w = .ok () E'.w ∧ Stepped E w0 okb s.mem s.nx r undef E' := by
  unfold storeE at h
  split at h
  · rename_i g n vs id i j hz hvs
    split at h
    · rename_i hn
      obtain ⟨cv, hyc, h1, hrv⟩ := cells_sound hvs hy
      have hcvn : cv.length = n := by rw [hrv.1, hn]
      obtain ⟨ha, b, o, z, hl, rfl⟩ := hx.ptr_inv
      have hrun : ∀ (c : Array Value) (ty : TypeId), E.w.heap[b]? = some (.cells c ty (0, 0)) → o + i * z + j + cv.length ≤ c.size →
          (Instr.storeAt t (.pointer (some ⟨b, o + i * z + j, none⟩)) y).run P E.w = .ok () (E.w.setRow b (c.toList.take (o + i * z + j) ++ cv ++ c.toList.drop (o + i * z + j + cv.length)).toArray) := by
        intro c ty hb hle
        have hs := run_storeCells_at (P := P) b (o + i * z + j) ty cv 0 c E.w hb (by omega) h1
        have hcs : y.cells.size = n := by rw [hyc]; simpa using hcvn
        have hct : y.cells.toList = cv := by rw [hyc]
        simp only [Instr.storeAt, Instr.sureAddr, storeVar, Sem.run_bind, Sem.run_pure, Result.andThen_ok, run_sizeOf_tsz hz, hcs, ne_eq, not_true_eq_false, if_false, hct]
        simpa using hs
      split at h
      · rename_i bs hg
        split at h
        · rename_i hi0
          subst hi0
          split at h
          · rename_i cs' hsp
            obtain rfl := Option.some.inj h
            obtain ⟨b', c, ty, hl', hb, hbase, hnok, hsz, hc⟩ := (hM.arr id _ hg).2
            rw [hl] at hl'
            obtain ⟨rfl, rfl, rfl⟩ : b = b' ∧ o = 0 ∧ z = 0 := by simpa using hl'
            have hjl : j + cv.length ≤ c.size := by
              unfold splice at hsp
              split at hsp
              · rw [hsz, hrv.1]; assumption
              · exact absurd hsp (by simp)
            have hbs : Ones E bs c.toList := ⟨⟨by simp [hsz], fun q a u hq hu => by
                obtain ⟨u', e1, _, e3⟩ := hc q a hq
                rw [Array.getElem?_toList] at hu
                rw [hu] at e1
                obtain rfl := Option.some.inj e1
                exact e3⟩, fun u hu => by
                obtain ⟨q, hq⟩ := List.getElem?_of_mem hu
                rw [Array.getElem?_toList] at hq
                obtain ⟨u', e1, e2, _⟩ := hc q _ (List.getElem?_eq_getElem (by have := (Array.getElem?_eq_some_iff.1 hq).1; omega))
                rw [hq] at e1
                obtain rfl := Option.some.inj e1
                exact e2⟩
            have hsp' := splice_ones hsp hbs ⟨hrv, h1⟩
            let c' := (c.toList.take j ++ cv ++ c.toList.drop (j + cv.length)).toArray
            have hcs : c'.size = c.size := by simp [c']; omega
            obtain ⟨hle, hF', hat, hmem⟩ := set_block hF hM hg rfl hl hb hbase hnok hcs
            refine ⟨_, by have := hrun c ty hb (by simpa using hjl); simpa [c', Env.set] using this, hle, fun id' => ⟨.inl, fun h => h.elim (fun h => h) (fun h => by simp only at h; omega)⟩, by simp, hF', hmem _ ?_, .pure (.jk _)⟩
            have ho := hsp'.mono hle
            have hlc : c'.size = cs'.length := by have := hsp'.1.1; simpa [c'] using this
            refine ⟨b, c', ty, hl, hat, hbase, hnok, hlc, fun q a hq => ?_⟩
            obtain ⟨u, e1, e2, e3⟩ := ho.get hq
            exact ⟨u, by simpa [c'] using e1, e2, e3⟩
          · exact absurd h (by simp)
        · exact absurd h (by simp)
      · rename_i sz xs hg
        split at h
        · rename_i vs' d rd cs hpc hxi
          split at h
          · rename_i hd
            split at h
            · rename_i cs' hsp
              obtain rfl := Option.some.inj h
              have hxlen : 0 < xs.length := by have := (List.getElem?_eq_some_iff.1 hxi).1; omega
              have hzz : z = sz := row_loc hM (.inl hg) hl
              subst hzz
              obtain ⟨E1, f1, p1⟩ := pureCells_sound hF hM ⟨hrv, h1⟩ hpc
              have hg1 : get (d ++ s.mem) id = some (.row z xs) := by
                have : ∀ (d : List (Nat × Arr)), d.all (fun x => x.1 != id) = true → get (d ++ s.mem) id = get s.mem id := by
                  intro d
                  induction d with
                  | nil => intro _; rfl
                  | cons a d ih =>
                    intro hd
                    simp only [List.all_cons, Bool.and_eq_true, bne_iff_ne, ne_eq] at hd
                    rw [List.cons_append, get_cons, if_neg hd.1]
                    exact ih hd.2
                rw [this d hd, hg]
              have hl1 : E1.loc id = some (b, o, z) := by rw [f1.loc, hl]
              have hr := (f1.mem.arr id _ hg1).2
              simp only [ArrRel, hl1] at hr
              obtain ⟨c, ty, hb, hbase, hnok, hsz, hzc, hc⟩ := hr
              have hi : i < xs.length := (List.getElem?_eq_some_iff.1 hxi).1
              have hcsl : cs.length = z := (hc i cs hxi).1
              have hvl : vs'.length = cv.length := p1.1.symm
              have hj : j + cv.length ≤ z := by
                unfold splice at hsp
                split at hsp
                · rw [← hvl, ← hcsl]; assumption
                · exact absurd hsp (by simp)
              have hbnd : o + i * z + j + cv.length ≤ c.size := by
                have : (i + 1) * z ≤ xs.length * z := Nat.mul_le_mul_right z hi
                rw [Nat.add_mul] at this
                omega
              let c' := (c.toList.take (o + i * z + j) ++ cv ++ c.toList.drop (o + i * z + j + cv.length)).toArray
              have hcs : c'.size = c.size := by simp [c']; omega
              obtain ⟨hle, hF', hat, hmem⟩ := set_block f1.frm f1.mem hg1 rfl hl1 hb hbase hnok hcs
              have hrun' := hrun c ty (by rw [← f1.w]; exact hb) hbnd
              have hcell : ∀ q, c'[q]? = if q < o + i * z + j then c[q]? else if q < o + i * z + j + cv.length then cv[q - (o + i * z + j)]? else c[q]? := by
                intro q
                have := splice_get (l := c.toList) (v := cv) (p := o + i * z + j) (q := q) (by simpa using hbnd)
                simpa [c'] using this
              have hS : Stepped E1 w0 okb (d ++ s.mem) s.nx ⟨.jk, [(id, .row z (xs.set i cs'))], s.nx, []⟩ undef (E1.set b c') := by
                refine ⟨hle, fun id' => ⟨.inl, fun h => h.elim (fun h => h) (fun h => by simp only at h; omega)⟩, by simp, hF', hmem _ ?_, .pure (.jk _)⟩
                simp only [ArrRel]
                rw [show (E1.set b c').loc id = some (b, o, z) from hl1]
                refine ⟨c', ty, hat, hbase, hnok, by rw [List.length_set, hcs]; exact hsz, rfl, ?_⟩
                have hcm : Cells (E1.set b c').w (E1.set b c').ok c o z xs := hc.mono hle.ok hle.blk
                have hlow : ∀ {k m : Nat}, m < z → k < i → o + k * z + m < o + i * z := by
                  intro k m hm hk
                  have := idx_lt (s := z) hk hm
                  omega
                have hhigh : ∀ {k : Nat}, i < k → o + i * z + z ≤ o + k * z := by
                  intro k hk
                  have : (i + 1) * z ≤ k * z := Nat.mul_le_mul_right z hk
                  rw [Nat.add_mul] at this
                  omega
                intro k row hk
                rw [List.getElem?_set] at hk
                split at hk
                · rename_i hik
                  subst hik
                  obtain rfl := Option.some.inj hk
                  unfold splice at hsp
                  split at hsp
                  · rename_i hle2
                    obtain rfl := Option.some.inj hsp
                    refine ⟨by simp; omega, fun m a hm => ?_⟩
                    rw [hcell]
                    rw [List.append_assoc, List.getElem?_append] at hm
                    split at hm
                    · rename_i hm1
                      have hmj : m < j := by simp at hm1; omega
                      rw [if_pos (by omega)]
                      rw [List.getElem?_take, if_pos hmj] at hm
                      exact (hcm i cs hxi).2 m a hm
                    · rename_i hm1
                      have hmj : ¬ m < j := by simp at hm1; omega
                      rw [if_neg (by omega)]
                      have htl : (cs.take j).length = j := by simp; omega
                      rw [htl, List.getElem?_append] at hm
                      split at hm
                      · rename_i hm2
                        rw [if_pos (by omega), show o + i * z + m - (o + i * z + j) = m - j by omega]
                        obtain ⟨u, hu⟩ : ∃ u, cv[m - j]? = some u := ⟨_, List.getElem?_eq_getElem (by omega)⟩
                        exact ⟨u, hu, p1.2.2 u (List.mem_of_getElem? hu), (p1.2.1 _ a u hm hu).mono hle.ok hle.blk⟩
                      · rename_i hm2
                        rw [if_neg (by omega)]
                        rw [List.getElem?_drop, show j + vs'.length + (m - j - vs'.length) = m by omega] at hm
                        exact (hcm i cs hxi).2 m a hm
                  · exact absurd hsp (by simp)
                · rename_i hik
                  obtain ⟨hl2, hcc⟩ := hcm k row hk
                  refine ⟨hl2, fun m a hm => ?_⟩
                  have hmz : m < z := by rw [← hl2]; exact (List.getElem?_eq_some_iff.1 hm).1
                  obtain ⟨u, e1, e2, e3⟩ := hcc m a hm
                  refine ⟨u, ?_, e2, e3⟩
                  rw [hcell]
                  rcases Nat.lt_or_gt_of_ne (fun e : k = i => hik e.symm) with hlt | hgt
                  · have := hlow hmz hlt
                    rw [if_pos (by omega)]; exact e1
                  · have := hhigh hgt
                    rw [if_neg (by omega), if_neg (by omega)]; exact e1
              refine ⟨E1.set b c', ?_, ?_⟩
              · rw [hrun']
                show _ = Result.ok () (E1.w.setRow b c')
                rw [f1.w]
              · exact Stepped.after f1 hS
            · exact absurd h (by simp)
          · exact absurd h (by simp)
        · exact absurd h (by simp)
      · exact absurd h (by simp)
    · exact absurd h (by simp)
  · exact absurd h (by simp)
end Go.Ab
