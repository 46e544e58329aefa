/- The abstract interpreter: slices of slices. -/
import Derived.Test.YtchibfkcphbmjaaAb13
set_option linter.unusedVariables false
set_option linter.unusedSimpArgs false
set_option linter.unusedSectionVars false

namespace Go.Ab
open Go.RowKit (Below)

def OptRep (E : Env) : Option AV → Option Value → Prop
  | none, none => True
  | some a, some v => Rep E a v
  | _, _ => False

theorem bound_inv {E : Env} {d : Nat} {lo : Option AV} {v : Option Value} {l : Int} (h : bound d lo = some l) (hr : OptRep E lo v) : (v = none ∧ l = d) ∨ ∃ k, v = some (.int k l) := by
  unfold bound at h
  split at h
  · cases v with
    | none => exact .inl ⟨rfl, (Option.some.inj h).symm⟩
    | some _ => cases hr
  · cases v with
    | none => cases hr
    | some u => obtain rfl := Rep.sc_inv hr; obtain rfl := Option.some.inj h; exact .inr ⟨_, rfl⟩
  · exact absurd h (by simp)

theorem run_sliceBounds {E : Env} {P : Program} {isSlice : Bool} {len cap : Nat} {lo hi : Option AV} {vlo vhi : Option Value} {l h : Int} (hl : bound 0 lo = some l) (hh : bound len hi = some h)
    (rl : OptRep E lo vlo) (rh : OptRep E hi vhi) (h0 : 0 ≤ l) (h1 : l ≤ h) (h2 : h ≤ len) (h3 : len ≤ cap) (w : World) :
    (Instr.sliceBounds isSlice len cap vlo vhi none).run P w = .ok (l.toNat, h.toNat, cap) w := by
  have e1 : (h.toNat : Int) = h := Int.toNat_of_nonneg (by omega)
  rcases bound_inv hh rh with ⟨rfl, rfl⟩ | ⟨k, rfl⟩
  · rcases bound_inv hl rl with ⟨rfl, rfl⟩ | ⟨k', rfl⟩
    · simp [Instr.sliceBounds]
    · have : 0 ≤ l ∧ l ≤ (len : Int) := ⟨h0, h1⟩
      simp [Instr.sliceBounds, Instr.sliceBound, asIntOf, this]
  · have c1 : 0 ≤ h ∧ h ≤ (cap : Int) := ⟨by omega, by omega⟩
    rcases bound_inv hl rl with ⟨rfl, rfl⟩ | ⟨k', rfl⟩
    · simp [Instr.sliceBounds, Instr.sliceBound, asIntOf, c1]
    · have : 0 ≤ l ∧ l ≤ (h.toNat : Int) := ⟨h0, by omega⟩
      simp only [Instr.sliceBounds, Instr.sliceBound, asIntOf, Sem.run_bind, Sem.run_pure, Result.andThen_ok, c1, and_self, if_true, Sem.run_ite, this]

theorem slice_sound {E : Env} {P : Program} {w0 : World} {okb : Nat → Prop} {s : AS} {t : TypeId} {v : AV} {x : Value} {lo hi : Option AV} {vlo vhi : Option Value} {r : Res} (hF : Frm E w0 okb) (hM : MemRel E w0.heap.size s.mem)
    (hx : Rep E v x) (rl : OptRep E lo vlo) (rh : OptRep E hi vhi) (h : sliceE P s t v lo hi = some r) : ∃ y, (Instr.sliceAt t x vlo vhi none).run P E.w = .ok y E.w ∧ Stepped E w0 okb s.mem s.nx r y E := by
  unfold sliceE at h
  split at h
  · rename_i b
    obtain rfl := hx.sc_inv
    split at h
    · rename_i l h' ht hl hh
      split at h
      · rename_i hc
        obtain rfl := Option.some.inj h
        have hb := run_sliceBounds (P := P) (isSlice := false) (cap := b.size) hl hh rl rh hc.1 hc.2.1 hc.2.2 (Nat.le_refl _) E.w
        exact ⟨_, by simp [Instr.sliceAt, Instr.slice, run_underlying (tstr_inv ht), hb], .same hF hM (.pure (.sc _))⟩
      · exact absurd h (by simp)
    · exact absurd h (by simp)
  · rename_i sz xs
    split at h
    · rename_i g n l h' hz hl hh
      obtain ⟨e, hu, hz⟩ := elem_tsz hz
      split at h
      · rename_i hc
        obtain ⟨h0, h1, h2, rfl⟩ := hc
        obtain rfl := Option.some.inj h
        rcases hx.sl_inv with ⟨rfl, rfl | ⟨a, cap, rfl⟩⟩ | ⟨b, o, cap, rfl, hk, hcap, hsz, hcell⟩
        · have hb := run_sliceBounds (P := P) (isSlice := true) (cap := 0) hl hh rl rh h0 h1 h2 (Nat.le_refl _) E.w
          simp only [List.length_nil] at h2
          obtain rfl : h' = 0 := by omega
          obtain rfl : l = 0 := by omega
          refine ⟨.slice none 0 0, ?_, .same hF hM ?_⟩
          · simp only [List.length_nil] at hb
            simp [Instr.sliceAt, Instr.slice, run_underlying hu, hb, run_sizeOf_tsz hz]
          · simpa using Rep.pure (E := E) (.slNil n)
        · simp only [List.length_nil] at h2 hh
          have hb := run_sliceBounds (P := P) (isSlice := true) (cap := cap) hl hh rl rh h0 h1 h2 (Nat.zero_le _) E.w
          obtain rfl : h' = 0 := by omega
          obtain rfl : l = 0 := by omega
          refine ⟨.slice (some (if cap = 0 then a else a.add 0)) 0 cap, ?_, .same hF hM ?_⟩
          · by_cases hc0 : cap = 0
            · subst hc0; simp [Instr.sliceAt, Instr.slice, run_underlying hu, hb, run_sizeOf_tsz hz]
            · simp [Instr.sliceAt, Instr.slice, run_underlying hu, hb, run_sizeOf_tsz hz, hc0]
          · simpa using Rep.pure (E := E) (.slEmp n _ cap)
        · have hb := run_sliceBounds (P := P) (isSlice := true) (cap := cap) hl hh rl rh h0 h1 h2 hcap E.w
          have hll : ((xs.take h'.toNat).drop l.toNat).length = h'.toNat - l.toNat := by simp; omega
          have hrun : (Instr.sliceAt t (.slice (some ⟨b, o, none⟩) xs.length cap) vlo vhi none).run P E.w = .ok (.slice (some ⟨b, if cap = l.toNat then o else o + l.toNat * n, none⟩) (h'.toNat - l.toNat) (cap - l.toNat)) E.w := by
            by_cases hcl : cap = l.toNat
            · rw [hcl] at hb
              simp [Instr.sliceAt, Instr.slice, run_underlying hu, hb, run_sizeOf_tsz hz, hcl]
            · simp [Instr.sliceAt, Instr.slice, run_underlying hu, hb, run_sizeOf_tsz hz, hcl, addr_add]
          refine ⟨_, hrun, .same hF hM (.pure ?_)⟩
          have hget : ∀ (i : Nat) (cs : List AV), ((xs.take h'.toNat).drop l.toNat)[i]? = some cs → xs[l.toNat + i]? = some cs := by
            intro i cs hi
            rw [List.getElem?_drop, List.getElem?_take] at hi
            split at hi
            · exact hi
            · exact absurd hi (by simp)
          by_cases hcl : cap = l.toNat
          · have hnil : (xs.take h'.toNat).drop l.toNat = [] := by apply List.length_eq_zero_iff.1; omega
            have e1 : h'.toNat - l.toNat = 0 := by omega
            rw [if_pos hcl, hnil, e1]
            exact .sl n [] b o _ (fun _ _ => undef) hk (by simp) (by simp) (by simp) (by simp) (by simp)
          · rw [if_neg hcl, ← hll]
            have hcs : ∀ (i : Nat) (cs : List AV) (j : Nat) (c : AV), ((xs.take h'.toNat).drop l.toNat)[i]? = some cs → cs[j]? = some c → ∃ y, E.w.cell? ⟨b, o + l.toNat * n + i * n + j, none⟩ = some y ∧ y.oneCell' = true ∧ RepP E.w E.ok c y := by
              intro i cs j c hi hj
              have := hcell (l.toNat + i) cs j c (hget i cs hi) hj
              rwa [Nat.add_mul, ← Nat.add_assoc] at this
            exact .sl n _ b _ _ (fun i j => (E.w.cell? ⟨b, o + l.toNat * n + i * n + j, none⟩).getD undef) hk (by omega) (fun i cs hi => hsz _ cs (hget i cs hi))
              (fun i cs j c hi hj => by obtain ⟨y, q1, q2, q3⟩ := hcs i cs j c hi hj; simp [q1])
              (fun i cs j c hi hj => by obtain ⟨y, q1, q2, q3⟩ := hcs i cs j c hi hj; simpa [q1] using q2)
              (fun i cs j c hi hj => by obtain ⟨y, q1, q2, q3⟩ := hcs i cs j c hi hj; simpa [q1] using q3)
      · exact absurd h (by simp)
    · exact absurd h (by simp)
  · rename_i id off len
    have main : ∀ (g : Bool) (n : Nat) (l h' : Int) (sz : Nat) (xs : List (List AV)), (telem P t).bind (tsz P) = some (g, n) → bound 0 lo = some l → bound len hi = some h' →
        get s.mem id = some (.row sz xs) ∨ get s.mem id = some (.frz sz xs) → 0 ≤ l ∧ l ≤ h' ∧ h' ≤ len ∧ n = sz ∧ 0 < xs.length ∧ (l = 0 ∨ l < len) →
        ∃ y, (Instr.sliceAt t x vlo vhi none).run P E.w = .ok y E.w ∧ Stepped E w0 okb s.mem s.nx ⟨.own id (off + l.toNat) (h' - l).toNat, [], s.nx, [id]⟩ y E := by
      rintro g n l h' sz xs hz hl hh hg ⟨h0, h1, h2, rfl, hxl, hor⟩
      obtain ⟨e, hu, hz⟩ := elem_tsz hz
      obtain ⟨ha, hcase⟩ := hx.own_inv
      rcases hcase with ⟨hloc, rfl, rfl, rfl⟩ | ⟨b, o, z, cap, hloc, rfl, hcap, c, ty, f, hb, hsize⟩
      · have hb := run_sliceBounds (P := P) (isSlice := true) (cap := 0) hl hh rl rh h0 h1 h2 (Nat.le_refl _) E.w
        obtain rfl : h' = 0 := by omega
        obtain rfl : l = 0 := by omega
        refine ⟨.slice none 0 0, ?_, .same hF hM ?_⟩
        · simp [Instr.sliceAt, Instr.slice, run_underlying hu, hb, run_sizeOf_tsz hz]
        · simpa using Rep.ownNil (E := E) id ha hloc
      · have hzz := row_loc hM hg hloc
        subst hzz
        have hbnd := run_sliceBounds (P := P) (isSlice := true) (cap := cap) hl hh rl rh h0 h1 h2 hcap E.w
        have e1 : (h' - l).toNat = h'.toNat - l.toNat := by omega
        have hrun : (Instr.sliceAt t (.slice (some ⟨b, o + off * z, none⟩) len cap) vlo vhi none).run P E.w = .ok (.slice (some ⟨b, o + (off + l.toNat) * z, none⟩) (h' - l).toNat (cap - l.toNat)) E.w := by
          rw [e1]
          by_cases hcl : cap = l.toNat
          · have hl0 : l.toNat = 0 := by omega
            rw [hcl, hl0] at hbnd
            simp [Instr.sliceAt, Instr.slice, run_underlying hu, hbnd, run_sizeOf_tsz hz, hcl, hl0]
          · simp [Instr.sliceAt, Instr.slice, run_underlying hu, hbnd, run_sizeOf_tsz hz, hcl, addr_add, Nat.add_mul, Nat.add_assoc]
        refine ⟨_, hrun, .same hF hM ?_⟩
        exact .own id (off + l.toNat) _ b o z _ ha hloc (by omega) ⟨c, ty, f, hb, by rw [show off + l.toNat + (cap - l.toNat) = off + cap by omega]; exact hsize⟩
    split at h
    · rename_i g n l h' sz xs hz hl hh hg
      split at h
      · rename_i hc; obtain rfl := Option.some.inj h; exact main g n l h' sz xs hz hl hh (.inl hg) hc
      · exact absurd h (by simp)
    · rename_i g n l h' sz xs hz hl hh hg
      split at h
      · rename_i hc; obtain rfl := Option.some.inj h; exact main g n l h' sz xs hz hl hh (.inr hg) hc
      · exact absurd h (by simp)
    · exact absurd h (by simp)
  · exact absurd h (by simp)

theorem minmax_sound {E : Env} {P : Program} (isMax : Bool) (k : IntKind) : ∀ {xs : List AV} {cv : List Value} {a m : Int}, minmax isMax a xs = some m → Reps E xs cv → ∀ w,
    (cv.foldlM (if isMax then Builtin.max2 else Builtin.min2) (.int k a)).run P w = .ok (.int k m) w
  | [], cv, a, m, h, hr, w => by
    obtain rfl : cv = [] := by simpa using hr.1
    obtain rfl := Option.some.inj h
    simp
  | x :: xs, cv, a, m, h, hr, w => by
    cases cv with
    | nil => have := hr.1; simp at this
    | cons u cv =>
      cases x with
      | sc v =>
        cases v with
        | int k' b =>
          obtain rfl := (hr.2 0 _ u rfl rfl).sc_inv
          simp only [minmax] at h
          have hr' : Reps E xs cv := drop_reps hr 1
          have ih := minmax_sound (P := P) isMax k h hr' w
          simp only [List.foldlM_cons, Sem.run_bind]
          cases isMax <;> simpa [Builtin.max2, Builtin.min2] using ih
        | _ => simp only [minmax] at h; exact absurd h (by simp)
      | _ => simp only [minmax] at h; exact absurd h (by simp)
end Go.Ab
