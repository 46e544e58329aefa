/- A part of the proof. Conditions: those of each theorem. -/
import Derived.Test.YtchibfkcphbmjaaPS3
set_option linter.unusedVariables false
set_option linter.unusedSimpArgs false
set_option linter.unusedSectionVars false

namespace Go.Ab
open Go.Proofs
set_option maxRecDepth 10000
set_option linter.unusedVariables false

/-- Of equal neighbours one is left. -/
def dd (l : List Spot) : List Spot := l.foldl (fun out s => if out.getLast? = some s then out else out ++ [s]) []
theorem dd_snoc (l : List Spot) (x : Spot) : dd (l ++ [x]) = if (dd l).getLast? = some x then dd l else dd l ++ [x] := by
  unfold dd; rw [List.foldl_append]; rfl
theorem snoc_ind {α : Type} {p : List α → Prop} (h0 : p []) (h1 : ∀ l x, p l → p (l ++ [x])) : ∀ l, p l := by
  intro l
  have key : ∀ (n : Nat) (l : List α), l.length = n → p l := by
    intro n
    induction n with
    | zero => intro l hl; rw [List.length_eq_zero_iff.1 hl]; exact h0
    | succ n ih =>
      intro l hl
      have hne : l ≠ [] := by intro e; rw [e] at hl; cases hl
      rw [← List.dropLast_concat_getLast hne]
      exact h1 _ _ (ih _ (by simp [hl]))
  exact key _ l rfl
theorem dd_last (l : List Spot) : (dd l).getLast? = l.getLast? := by
  refine snoc_ind (p := fun l => (dd l).getLast? = l.getLast?) rfl (fun l x ih => ?_) l
  rw [dd_snoc]
  split
  · rename_i h; rw [h]; simp
  · simp
theorem dd_len (l : List Spot) : (dd l).length ≤ l.length := by
  refine snoc_ind (p := fun l => (dd l).length ≤ l.length) (Nat.le_refl _) (fun l x ih => ?_) l
  rw [dd_snoc]
  split
  · simp; omega
  · simp; omega
theorem dd_snoc' (l : List Spot) (x : Spot) : dd (l ++ [x]) = if l.getLast? = some x then dd l else dd l ++ [x] := by rw [dd_snoc, dd_last]
/-- One vertex is put there twice. -/
def fx (l : List Spot) : List Spot := if l.length = 1 then l ++ l else l
theorem take_snoc {l : List Spot} {v : Int} (h : Idx v l.length) : l.take (v + 1).toNat = l.take v.toNat ++ [ai l v] := by
  have e : (v + 1).toNat = v.toNat + 1 := by omega
  rw [e, List.take_add_one, ai_some h]; rfl
theorem take_all {l : List Spot} {v : Int} (h : v = l.length) : l.take v.toNat = l := by
  rw [List.take_of_length_le (by omega)]
theorem last_ai {l : List Spot} (h : 0 < l.length) : l.getLast? = some (ai l ((l.length : Int) - 1)) := by
  rw [List.getLast?_eq_getElem?]
  have e : ((l.length : Int) - 1).toNat = l.length - 1 := by omega
  rw [← e]; exact ai_some ⟨by omega, by omega⟩
theorem fx_one {l : List Spot} (h : l.length = 1) : fx l = l ++ [ai l 0] := by
  rw [fx, if_pos h]
  match l, h with
  | [a], _ => rfl
theorem ret_single (l : List Spot) (hl : l.length ≤ 1000) : Ret Try.prog XS 27 [.sl 2 (l.map cSpot)] (.fr 2 ((fx (dd l)).map cSpot)) := by
  refine polyline_single_W l _ (fun out v => 0 ≤ v ∧ v ≤ l.length ∧ out = dd (l.take v.toNat)) (fun out v => (l.length - v).toNat) ⟨by omega, by omega, rfl⟩ ?_
  rintro out v ⟨h0, h1, rfl⟩
  have hd := dd_len (l.take v.toNat)
  have hd2 : (l.take v.toNat).length ≤ l.length := List.length_take_le' _ _
  refine ⟨fun hlt => ⟨⟨h0, hlt⟩, fun c => ?_, fun c => ⟨⟨by omega, by omega⟩, ⟨by omega, by omega⟩, fun c2 => ?_, fun c2 => ?_⟩⟩, fun hlt => ?_⟩
  · have e : dd (l.take v.toNat) = [] := List.length_eq_zero_iff.1 (by omega)
    refine ⟨by simp [e], ⟨by omega, by omega⟩, ⟨by omega, by omega, ?_⟩, by dsimp only; omega⟩
    rw [take_snoc ⟨h0, hlt⟩, dd_snoc, e]; rfl
  · refine ⟨⟨by omega, by omega⟩, ⟨by omega, by omega, ?_⟩, by dsimp only; omega⟩
    rw [take_snoc ⟨h0, hlt⟩, dd_snoc, last_ai (by omega), c2, if_pos rfl]
  · refine ⟨by simp; omega, ⟨by omega, by omega⟩, ⟨by omega, by omega, ?_⟩, by dsimp only; omega⟩
    rw [take_snoc ⟨h0, hlt⟩, dd_snoc, last_ai (by omega), if_neg (by intro e; exact c2 (Option.some.inj e))]
  · rw [take_all (l := l) (v := v) (by omega)] at hd ⊢
    refine ⟨fun c => ⟨⟨by omega, by omega⟩, by simp; omega, ?_⟩, fun c => ?_⟩
    · exact fx_one (by omega)
    · rw [fx, if_neg (by omega)]
theorem ret_rpart (l : List Spot) (hl : l.length ≤ 1000) : Ret Try.prog XS 28 [.sl 2 (l.map cSpot)] (.fr 2 ((fx (dd l)).map cSpot)) := by
  refine garmentref10_part_W l _ (fun out v => 0 ≤ v ∧ v ≤ l.length ∧ out = dd (l.take v.toNat)) (fun out v => (l.length - v).toNat) ⟨by omega, by omega, rfl⟩ ?_
  rintro out v ⟨h0, h1, rfl⟩
  have hd := dd_len (l.take v.toNat)
  have hd2 : (l.take v.toNat).length ≤ l.length := List.length_take_le' _ _
  refine ⟨fun hlt => ⟨fun c => ?_, fun c => ⟨⟨h0, hlt⟩, ⟨by omega, by omega⟩, ⟨by omega, by omega⟩, fun c2 => ?_, fun c2 => ?_⟩⟩, fun hlt => ?_⟩
  · subst c
    refine ⟨⟨by omega, by omega⟩, by simp [dd], ⟨by omega, by omega⟩, ⟨by omega, by omega, ?_⟩, by dsimp only; omega⟩
    rw [take_snoc ⟨by omega, hlt⟩, dd_snoc]; rfl
  · have e : (l.take v.toNat).getLast? = some (ai l (v - 1)) := by
      rw [show v = v - 1 + 1 by omega, take_snoc ⟨by omega, by omega⟩]; simp
    refine ⟨⟨by omega, by omega⟩, ⟨by omega, by omega, ?_⟩, by dsimp only; omega⟩
    rw [take_snoc ⟨h0, hlt⟩, dd_snoc', e, c2, if_pos rfl]
  · have e : (l.take v.toNat).getLast? = some (ai l (v - 1)) := by
      rw [show v = v - 1 + 1 by omega, take_snoc ⟨by omega, by omega⟩]; simp
    refine ⟨by simp; omega, ⟨by omega, by omega⟩, ⟨by omega, by omega, ?_⟩, by dsimp only; omega⟩
    rw [take_snoc ⟨h0, hlt⟩, dd_snoc', e, if_neg (by intro e; exact c2 (Option.some.inj e).symm)]
  · rw [take_all (l := l) (v := v) (by omega)] at hd ⊢
    refine ⟨fun c => ⟨⟨by omega, by omega⟩, by simp; omega, ?_⟩, fun c => ?_⟩
    · exact fx_one (by omega)
    · rw [fx, if_neg (by omega)]
noncomputable def cutA (l : List Spot) (s : Int) : List Spot := fx (dd (cut l 0 (idx l s) ++ [pt l s]))
noncomputable def cutB (l : List Spot) (s : Int) : List Spot := fx (dd ([pt l s] ++ cut l (idx l s) l.length))
/-- The two parts, and the error. -/
noncomputable def cuts (l : List Spot) (s : Int) : List Spot × List Spot × Int := if (along l s).2 = 0 then (cutA l s, cutB l s, 0) else ([], [], (along l s).2)
theorem along_zero {l : List Spot} {s : Int} (h : (along l s).2 = 0) : Line l ∧ 0 ≤ s ∧ s ≤ total l ∧ along l s = (pt l s, 0) := by
  unfold along at h ⊢
  split at h
  · rename_i hc
    rw [if_pos hc]
    split at h
    · cases h
    · rename_i hs
      rw [if_neg hs]
      exact ⟨check_zero.1 hc, by omega, by omega, rfl⟩
  · rename_i hc; exact absurd h hc
theorem cut_len {l : List Spot} {a b : Int} : (cut l a b).length ≤ l.length := by
  simp only [cut, List.length_drop, List.length_take]; omega
theorem ret_cut (l : List Spot) (s : Int) : Ret Try.prog XS 12 [.sl 2 (l.map cSpot), int s] (.tup [.fr 2 ((cuts l s).1.map cSpot), .fr 2 ((cuts l s).2.1.map cSpot), int (cuts l s).2.2]) := by
  refine polyline_Cut_W l s _ _ _ ⟨_, _, ret_along l s, fun h => ?_, fun h => by rw [cuts, if_neg h]; exact ⟨rfl, rfl, rfl⟩⟩
  rw [cuts, if_pos h]
  obtain ⟨hl, h0, h1, _⟩ := along_zero h
  have hi := idx_is hl.two s
  have i1 := hi.one
  have i2 := hi.lt
  have h40 := hl.forty
  have c1 := cut_len (l := l) (a := 0) (b := idx l s)
  have c2 := cut_len (l := l) (a := idx l s) (b := l.length)
  exact ⟨_, _, ret_find hl h0 h1, ⟨by omega, by omega, by omega⟩, by simp; omega, by simp; omega, ⟨by omega, by omega, by omega⟩, by simp; omega, _, ret_single _ (by simp; omega), _, ret_single _ (by simp; omega), rfl, rfl, rfl⟩
theorem ret_rcut (l : List Spot) (s : Int) : Ret Try.prog XS 13 [.sl 2 (l.map cSpot), int s] (.tup [.fr 2 ((cuts l s).1.map cSpot), .fr 2 ((cuts l s).2.1.map cSpot), int (cuts l s).2.2]) := by
  refine garmentref10_Cut_W l s _ _ _ ⟨_, ret_rcheck l, fun h => ?_, fun h => ?_⟩
  · have hl := check_zero.1 h
    refine ⟨fun c => ?_, fun c => ⟨_, ret_total hl ret_rseg, fun c2 => ?_, fun c2 => ?_⟩⟩
    · have e : along l s = (⟨0, 0⟩, 3) := by rw [along, if_pos h, if_pos (.inl c)]
      rw [cuts, e]; exact ⟨rfl, rfl, rfl⟩
    · have e : along l s = (⟨0, 0⟩, 3) := by rw [along, if_pos h, if_pos (.inr c2)]
      rw [cuts, e]; exact ⟨rfl, rfl, rfl⟩
    · have e : along l s = (pt l s, 0) := by rw [along, if_pos h, if_neg (by omega)]
      rw [cuts, e, if_pos rfl]
      have hi := idx_is hl.two s
      have i1 := hi.one
      have i2 := hi.lt
      have h40 := hl.forty
      have c1 := cut_len (l := l) (a := 0) (b := idx l s)
      have c2' := cut_len (l := l) (a := idx l s) (b := l.length)
      have ei : idx l s - 1 + 1 = idx l s := by omega
      refine ⟨_, _, ret_locate hl (by omega) (by omega), ?_⟩
      rw [ei]
      exact ⟨⟨by omega, by omega⟩, ⟨by omega, by omega, by omega⟩, by simp; omega, by simp; omega, by simp, ⟨by omega, by omega, by omega⟩, by simp; omega, _, ret_rpart _ (by simp; omega), _, ret_rpart _ (by simp; omega), rfl, rfl, rfl⟩
  · have e : along l s = (⟨0, 0⟩, check l) := by rw [along, if_neg h]
    rw [cuts, e, if_neg h]; exact ⟨rfl, rfl, rfl⟩
theorem fx_len (l : List Spot) : (fx l).length ≤ l.length + 1 := by
  unfold fx; split
  · simp; omega
  · omega
theorem cuts_len (l : List Spot) (s : Int) : (cuts l s).1.length ≤ 1000 ∧ (cuts l s).2.1.length ≤ 1000 := by
  unfold cuts
  split
  · rename_i h
    obtain ⟨hl, _, _, _⟩ := along_zero h
    have h40 := hl.forty
    have c1 := cut_len (l := l) (a := 0) (b := idx l s)
    have c2 := cut_len (l := l) (a := idx l s) (b := l.length)
    have a1 := fx_len (dd (cut l 0 (idx l s) ++ [pt l s]))
    have a2 := dd_len (cut l 0 (idx l s) ++ [pt l s])
    have b1 := fx_len (dd ([pt l s] ++ cut l (idx l s) l.length))
    have b2 := dd_len ([pt l s] ++ cut l (idx l s) l.length)
    simp only [List.length_append, List.length_cons, List.length_nil] at a2 b2
    exact ⟨by show (cutA l s).length ≤ 1000; unfold cutA; omega, by show (cutB l s).length ≤ 1000; unfold cutB; omega⟩
  · simp
theorem law_divides (l : List Spot) (s : Int) : Ret Try.prog XS 4 [.sl 2 (l.map cSpot), int s] (boo true) := by
  have hl := cuts_len l s
  refine garmentlaw10_PolylineDivides_W l s _ ⟨fun _ => ⟨_, ret_alive, rfl⟩, fun _ => ⟨_, _, _, ret_cut l s, _, _, _, ret_rcut l s, _, ret_same _ _ (by omega), fun _ => ⟨_, ret_same _ _ (by omega), fun _ => ⟨fun _ => ⟨_, ret_alive, rfl⟩, fun h => absurd rfl h⟩, fun h => by simp at h⟩, fun h => by simp at h⟩⟩
end Go.Ab
