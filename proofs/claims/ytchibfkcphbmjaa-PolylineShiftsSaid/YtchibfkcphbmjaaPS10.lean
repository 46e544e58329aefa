/- A part of the proof. Conditions: those of each theorem. -/
import Derived.Test.YtchibfkcphbmjaaPS9
import Derived.Test.YtchibfkcphbmjaaLShiftsW
set_option linter.unusedVariables false
set_option linter.unusedSimpArgs false
set_option linter.unusedSectionVars false

namespace Go.Ab
open Go.Proofs
set_option maxRecDepth 10000
set_option linter.unusedVariables false

def sh (d s : Spot) : Spot := ⟨s.x + d.x, s.y + d.y⟩
theorem sh_inj {d p q : Spot} (h : sh d p = sh d q) : p = q := by
  simp only [sh, Spot.mk.injEq] at h
  cases p; cases q; simp only [Spot.mk.injEq]; simp only at h; omega
theorem seg_sh (d p q : Spot) : seg (sh d p) (sh d q) = seg p q := by
  unfold seg sq sh
  simp only
  rw [show q.x + d.x - (p.x + d.x) = q.x - p.x by omega, show q.y + d.y - (p.y + d.y) = q.y - p.y by omega]
theorem onSeg_sh (d p q : Spot) (a : Int) : onSeg (sh d p) (sh d q) a = sh d (onSeg p q a) := by
  unfold onSeg
  rw [seg_sh]
  simp only [sh]
  rw [show q.x + d.x - (p.x + d.x) = q.x - p.x by omega, show q.y + d.y - (p.y + d.y) = q.y - p.y by omega]
  simp only [Spot.mk.injEq]; omega
theorem ai_sh {l : List Spot} {d : Spot} {j : Int} (h : Idx j l.length) : ai (l.map (sh d)) j = sh d (ai l j) := ai_map h
theorem upTo_sh {l : List Spot} {d : Spot} {i : Int} (h0 : 0 ≤ i) (h1 : i < l.length) : upTo (l.map (sh d)) i = upTo l i := by
  have := upTo_alike (l := l.map (sh d)) (l' := l) (o := 0) (by omega) h0 (fun j j0 j1 => by
    rw [ai_sh ⟨by omega, by omega⟩, ai_sh ⟨by omega, by omega⟩, seg_sh, show (0 : Int) + j - 1 = j - 1 by omega, show (0 : Int) + j = j by omega])
  rw [this, upTo_zero, show (0 : Int) + i = i by omega]; omega
theorem total_sh {l : List Spot} (h : Line l) {d : Spot} : total (l.map (sh d)) = total l := by
  have := h.two
  unfold total
  rw [List.length_map, upTo_sh (by omega) (by omega)]
theorem idx_sh {l : List Spot} (h : Line l) {d : Spot} (s : Int) : idx (l.map (sh d)) s = idx l s := by
  have h2 := h.two
  refine (idx_is (by simpa using h2) s).unique ?_
  have hi := idx_is h2 s
  have i1 := hi.one
  have i2 := hi.lt
  refine ⟨i1, by simpa using i2, ?_, fun j j0 j1 => ?_⟩
  · rw [upTo_sh (by omega) i2, List.length_map]; exact hi.stop
  · rw [upTo_sh (by omega) (by omega)]; exact hi.on j j0 j1
theorem pt_sh {l : List Spot} (h : Line l) {d : Spot} (s : Int) : pt (l.map (sh d)) s = sh d (pt l s) := by
  have hi := idx_is h.two s
  have i1 := hi.one
  have i2 := hi.lt
  unfold pt
  rw [idx_sh h, ai_sh ⟨by omega, by omega⟩, ai_sh ⟨by omega, by omega⟩, upTo_sh (by omega) (by omega), onSeg_sh]
theorem dd_sh (d : Spot) (l : List Spot) : dd (l.map (sh d)) = (dd l).map (sh d) := by
  refine snoc_ind (p := fun l => dd (l.map (sh d)) = (dd l).map (sh d)) rfl (fun l x ih => ?_) l
  rw [List.map_append, List.map_cons, List.map_nil, dd_snoc', dd_snoc', ih, List.getLast?_map]
  by_cases h : l.getLast? = some x
  · rw [if_pos h, if_pos (by rw [h]; rfl)]
  · rw [if_neg h, if_neg, List.map_append]; rfl
    intro e
    cases hl : l.getLast? with
    | none => rw [hl] at e; cases e
    | some y =>
      rw [hl] at e
      have := sh_inj (Option.some.inj e)
      subst this; exact h hl
theorem fx_sh (d : Spot) (l : List Spot) : fx (l.map (sh d)) = (fx l).map (sh d) := by
  unfold fx
  rw [List.length_map]
  split
  · rw [List.map_append]
  · rfl
theorem cut_sh (d : Spot) (l : List Spot) (a b : Int) : cut (l.map (sh d)) a b = (cut l a b).map (sh d) := by
  unfold cut; rw [List.map_drop, List.map_take]
theorem cutA_sh {l : List Spot} (h : Line l) {d : Spot} (s : Int) : cutA (l.map (sh d)) s = (cutA l s).map (sh d) := by
  unfold cutA
  rw [idx_sh h, pt_sh h, cut_sh, ← fx_sh, ← dd_sh, List.map_append]; rfl
theorem dd_mem {l : List Spot} : ∀ x, x ∈ dd l → x ∈ l := by
  refine snoc_ind (p := fun l => ∀ x, x ∈ dd l → x ∈ l) (fun x h => h) (fun l y ih x hx => ?_) l
  rw [dd_snoc] at hx
  split at hx
  · exact List.mem_append_left _ (ih x hx)
  · rcases List.mem_append.1 hx with h | h
    · exact List.mem_append_left _ (ih x h)
    · exact List.mem_append_right _ h
theorem fx_mem {l : List Spot} (x : Spot) (h : x ∈ fx l) : x ∈ l := by
  unfold fx at h
  split at h
  · rcases List.mem_append.1 h with h | h <;> exact h
  · exact h
theorem cutA_G {l : List Spot} (h : Line l) {s : Int} (h0 : 0 ≤ s) (h1 : s ≤ total l) : ∀ p, p ∈ cutA l s → G p := by
  intro p hp
  have := dd_mem _ (fx_mem _ hp)
  rcases List.mem_append.1 this with h' | h'
  · exact grid_cut h.grid p h'
  · simp at h'; subst h'; exact (parts h h0 h1).g
theorem moved_sh {l : List Spot} {d : Spot} (hd : (-4194304 ≤ d.x ∧ d.x ≤ 4194304) ∧ -4194304 ≤ d.y ∧ d.y ≤ 4194304) (hg : ∀ p, p ∈ l → G p) : moved l d = l.map (sh d) := by
  unfold moved
  refine List.map_congr_left fun p hp => ?_
  obtain ⟨⟨a1, a2⟩, a3, a4⟩ := hg p hp
  unfold sh
  rw [wi64 ⟨by omega, by omega⟩, wi64 ⟨by omega, by omega⟩]
theorem small {x d : Int} (hx : -1048576 ≤ x ∧ x ≤ 1048576) (hd : InR d) (hw : -1048576 ≤ IntKind.wrap .i64 (x + d) ∧ IntKind.wrap .i64 (x + d) ≤ 1048576) : -4194304 ≤ d ∧ d ≤ 4194304 := by
  have h1 := hd.1
  have h2 := hd.2
  rw [IntKind.wrap_i64] at hw
  omega
theorem law_shifts (l : List Spot) (d : Spot) (a : Int) (hd : InR d.x ∧ InR d.y) (ha : InU32 a) : Ret Try.prog XS 8 [.sl 2 (l.map cSpot), .agg [int d.x, int d.y], .sc (.int .u32 a)] (boo true) := by
  refine garmentlaw10_PolylineShifts_W l d a _ ⟨fun _ => ⟨_, ret_alive, rfl⟩, fun h60 => ⟨_, ret_move l d (by omega), _, ret_check l, fun hc => ⟨_, ret_check _, fun hm => ?_, fun _ => ⟨fun _ => ⟨_, ret_alive, rfl⟩, fun h => absurd (by simp [moved]) h⟩⟩, fun _ => ⟨fun _ => ⟨_, ret_alive, rfl⟩, fun h => absurd (by simp [moved]) h⟩⟩⟩
  have hl := check_zero.1 hc
  have hml := check_zero.1 hm
  have h2 := hl.two
  have hdr : (-4194304 ≤ d.x ∧ d.x ≤ 4194304) ∧ -4194304 ≤ d.y ∧ d.y ≤ 4194304 := by
    have g0 := hl.at (i := 0) ⟨by omega, by omega⟩
    have g1 := hml.at (i := 0) ⟨by omega, by simp [moved]; omega⟩
    rw [moved, ai_map ⟨by omega, by omega⟩] at g1
    exact ⟨small g0.1 hd.1 g1.1, small g0.2 hd.2 g1.2⟩
  have em := moved_sh hdr hl.grid
  rw [em] at hml ⊢
  have lm := len_is hml
  rw [total_sh hl] at lm
  have tr := total_range hl
  have sr := tmod_range ha.1 (show 0 ≤ total l by omega)
  refine ⟨_, _, len_is hl, _, _, lm, fun _ => ⟨fun h => by omega, fun _ => ⟨⟨by have := ha.1; omega, by have := ha.2; omega⟩, ⟨by omega, by omega⟩, by omega, ?_⟩⟩, fun h => absurd rfl h⟩
  generalize a.tmod (total l + 1) = s at sr ⊢
  have gp := (parts hl sr.1 sr.2).g
  have am := along_is hml (s := s) sr.1 (by rw [total_sh hl]; exact sr.2)
  have cm := cut_is hml (s := s) sr.1 (by rw [total_sh hl]; exact sr.2)
  rw [pt_sh hl] at am
  rw [cutA_sh hl] at cm
  obtain ⟨⟨a1, a2⟩, a3, a4⟩ := gp
  have cl := cuts_len l s
  rw [cuts_in hl sr.1 sr.2] at cl
  dsimp only at cl
  have mv := ret_move (cutA l s) d (by omega)
  rw [moved_sh hdr (cutA_G hl sr.1 sr.2)] at mv
  exact ⟨_, _, along_is hl sr.1 sr.2, _, _, am, _, _, _, cut_is hl sr.1 sr.2, _, _, _, cm, fun _ => ⟨fun _ => ⟨fun _ => ⟨fun _ => ⟨⟨by omega, by omega⟩, ⟨by omega, by omega⟩, fun _ => ⟨_, mv, _, ret_same _ _ (by simp; omega), fun _ => ⟨_, ret_alive, rfl⟩, fun h => by simp at h⟩, fun h => absurd rfl h⟩, fun h => absurd rfl h⟩, fun h => absurd rfl h⟩, fun h => absurd rfl h⟩, fun h => absurd rfl h⟩
end Go.Ab
