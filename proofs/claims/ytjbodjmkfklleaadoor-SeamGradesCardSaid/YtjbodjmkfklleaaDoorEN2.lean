/- Chapter 21: names. -/
import Derived.Test.YtjbodjmkfklleaaDoorEEx
import Derived.Test.YtjbodjmkfklleaaDoorEWall
set_option linter.unusedVariables false
set_option linter.unusedSimpArgs false
set_option linter.unusedSectionVars false

section
namespace Go.Ab
open Go.Proofs
set_option maxRecDepth 100000
set_option linter.unusedVariables false

def cutS : ByteArray := { data := #[97, 98, 99, 100, 101, 102, 103, 104, 105, 106, 107, 108, 109, 110, 111, 112, 113, 114, 115, 116, 117, 118, 119, 120, 121, 122, 48, 49, 50, 51, 52, 53, 54, 55, 56, 57, 95] }
theorem ret_set : Ret Tryd.prog XS 78 [str cutS] (.tup [.agg setT, boo true]) := exF_sound (n := 300) (k := 20) extS_sound pOk (by kernel_rfl)
noncomputable def hasB (c : Nat) : Bool := match exF Tryd.prog extS 300 20 92 [.ref setT, .sc (.int .u8 (c : Int))] with
  | some (.sc (.bool b)) => b == inSet c
  | _ => false
theorem has_all : ((List.range 256).all hasB) = true := by kernel_rfl
theorem ret_has (c : Nat) (h : c < 256) : Ret Tryd.prog XS 92 [.ref setT, .sc (.int .u8 (c : Int))] (boo (inSet c)) := by
  have h1 := (List.all_eq_true.1 has_all) c (List.mem_range.2 h)
  unfold hasB at h1
  split at h1
  · rename_i b e
    have : b = inSet c := by simpa using h1
    subst this
    exact exF_sound extS_sound pOk e
  · cases h1
theorem ret_hasB (s : ByteArray) (i : Nat) (h : i < s.size) : Ret Tryd.prog XS 92 [.ref setT, .sc (.int .u8 (bt s i))] (boo (inSet s[i].toNat)) := by
  have e : bt s i = (s[i].toNat : Int) := by
    unfold bt
    rw [show ((i : Int).toNat) = i from rfl, getElem?_pos s i h]; rfl
  rw [e]
  exact ret_has _ (UInt8.toNat_lt _)

def pS (c : UInt8) : Bool := inSet c.toNat
def trR (s : ByteArray) : ByteArray := ⟨(s.data.toList.reverse.dropWhile pS).reverse.toArray⟩
def trL (s : ByteArray) : ByteArray := ⟨(s.data.toList.dropWhile pS).toArray⟩
theorem ba_ext {s t : ByteArray} (h : s.data.toList = t.data.toList) : s = t := ByteArray.ext (Array.ext' h)
theorem ba_size (s : ByteArray) : s.size = s.data.toList.length := (Array.length_toList (xs := s.data)).symm
theorem ba_get (s : ByteArray) (i : Nat) (h : i < s.size) : s.data.toList[i]? = some s[i] := by
  rw [Array.getElem?_toList]; exact Array.getElem?_eq_getElem h

theorem extract_list (s : ByteArray) (a b : Nat) : (s.extract a b).data.toList = (s.data.toList.take b).drop a := by
  rw [ByteArray.data_extract, Array.toList_extract, List.extract_eq_take_drop, List.drop_take]
theorem trL_step (s : ByteArray) (h : 0 < s.size) : (inSet s[0].toNat = true → trL (s.extract 1 s.size) = trL s) ∧ (inSet s[0].toNat = false → trL s = s) := by
  have hl : ∃ r, s.data.toList = s[0] :: r := by
    have h0 := ba_get s 0 h
    cases e : s.data.toList with
    | nil => rw [e] at h0; cases h0
    | cons a r => rw [e] at h0; simp at h0; exact ⟨r, by rw [h0]⟩
  obtain ⟨r, hr⟩ := hl
  refine ⟨fun hp => ba_ext ?_, fun hp => ba_ext ?_⟩
  · simp only [trL]
    rw [extract_list, ba_size, List.take_length, hr, List.dropWhile_cons, if_pos (by exact hp)]
    rfl
  · simp only [trL, hr]
    rw [List.dropWhile_cons, if_neg (by simp [pS, hp])]
theorem trR_step (s : ByteArray) (h : 0 < s.size) : (inSet (s[s.size - 1]'(by omega)).toNat = true → trR (s.extract 0 (s.size - 1)) = trR s) ∧ (inSet (s[s.size - 1]'(by omega)).toNat = false → trR s = s) := by
  have hl : s.data.toList = s.data.toList.take (s.size - 1) ++ [s[s.size - 1]'(by omega)] := by
    have h0 := ba_get s (s.size - 1) (by omega)
    have h1 : s.data.toList.length = s.size - 1 + 1 := by rw [← ba_size]; omega
    have h2 : s.data.toList[s.size - 1]'(by omega) = s[s.size - 1]'(by omega) := by
      rw [List.getElem?_eq_getElem (by omega)] at h0
      exact Option.some.inj h0
    rw [← h2, List.take_append_getElem (by omega), ← h1, List.take_length]
  generalize (s[s.size - 1]'(by omega)) = x at *
  have hrev : s.data.toList.reverse = x :: (s.data.toList.take (s.size - 1)).reverse := by rw [hl]; simp
  refine ⟨fun hp => ba_ext ?_, fun hp => ba_ext ?_⟩
  · simp only [trR]
    rw [extract_list, List.drop_zero, hrev, List.dropWhile_cons, if_pos (by exact hp)]
  · simp only [trR, hrev]
    rw [List.dropWhile_cons, if_neg (by simp [pS, hp]), ← hrev, List.reverse_reverse]
theorem dw_nil {α : Type} (p : α → Bool) : ∀ l : List α, l.dropWhile p = [] ↔ l.all p = true
  | [] => by simp
  | a :: r => by
    rw [List.dropWhile_cons, List.all_cons]
    split
    · rename_i h; rw [dw_nil p r, h]; simp
    · rename_i h; simp [h]
theorem dw_all {α : Type} (p : α → Bool) : ∀ l : List α, (l.dropWhile p).all p = l.all p
  | [] => rfl
  | a :: r => by
    rw [List.dropWhile_cons, List.all_cons]
    split
    · rename_i h; rw [dw_all p r, h]; simp
    · rename_i h; simp [h]
theorem tr_nil (s : ByteArray) : trL (trR s) = ({ data := #[] } : ByteArray) ↔ s.data.toList.all pS = true := by
  have e : trL (trR s) = ({ data := #[] } : ByteArray) ↔ (trL (trR s)).data.toList = [] := ⟨fun h => by rw [h], fun h => ba_ext (by rw [h])⟩
  rw [e]
  simp only [trL, trR]
  rw [dw_nil, List.all_reverse, dw_all, List.all_reverse]
theorem trR_size (s : ByteArray) : (trR s).size ≤ s.size := by
  rw [ba_size, ba_size]
  simp only [trR, List.length_reverse]
  exact Nat.le_trans (List.dropWhile_suffix pS).length_le (by simp)

theorem ret_trimL (s : ByteArray) (h : s.size ≤ 1000) : Ret Tryd.prog XS 79 [str s, .ref setT] (str (trL s)) := by
  refine strings_trimLeftASCII_W s (trL s) (fun t => t.size ≤ 1000 ∧ trL t = trL s) (fun t => t.size) ⟨h, rfl⟩ ?_
  rintro t ⟨h1, h2⟩
  refine ⟨fun hp => ⟨⟨by omega, by omega⟩, _, ret_hasB t 0 (by omega), fun hb => ?_, fun hb => ?_⟩, fun hp => ?_⟩
  · have h3 := (trL_step t (by omega)).1 hb
    refine ⟨⟨by omega, by omega, by omega⟩, ⟨?_, ?_⟩, ?_⟩
    · show (t.extract 1 t.size).size ≤ 1000
      rw [ByteArray.size_extract]; omega
    · show trL (t.extract 1 t.size) = _
      rw [h3, h2]
    · show (t.extract 1 t.size).size < t.size
      rw [ByteArray.size_extract]; omega
  · rw [← h2]; exact (trL_step t (by omega)).2 hb
  · have h0 : t.size = 0 := by omega
    rw [← h2]
    exact ba_ext (by simp only [trL]; rw [show t.data.toList = [] from List.length_eq_zero_iff.1 (by rw [← ba_size]; exact h0)]; rfl)
theorem ret_trimR (s : ByteArray) (h : s.size ≤ 1000) : Ret Tryd.prog XS 80 [str s, .ref setT] (str (trR s)) := by
  refine strings_trimRightASCII_W s (trR s) (fun t => t.size ≤ 1000 ∧ trR t = trR s) (fun t => t.size) ⟨h, rfl⟩ ?_
  rintro t ⟨h1, h2⟩
  refine ⟨fun hp => ⟨⟨by omega, by omega⟩, ⟨by omega, by omega⟩, inSet (t[t.size - 1]'(by omega)).toNat, ?_, fun hb => ?_, fun hb => ?_⟩, fun hp => ?_⟩
  · have := ret_hasB t (t.size - 1) (by omega)
    rwa [show (((t.size - 1 : Nat)) : Int) = ((t.size : Nat) : Int) - 1 by omega] at this
  · have h3 := (trR_step t (by omega)).1 hb
    have e : t.extract (((0 : Nat) : Int) : Int).toNat ((((t.size : Nat) : Int) - 1) : Int).toNat = t.extract 0 (t.size - 1) := by
      congr 1; omega
    rw [e]
    refine ⟨⟨by omega, by omega, by omega⟩, ⟨?_, ?_⟩, ?_⟩
    · rw [ByteArray.size_extract]; omega
    · rw [h3, h2]
    · show (t.extract 0 (t.size - 1)).size < t.size
      rw [ByteArray.size_extract]; omega
  · rw [← h2]; exact (trR_step t (by omega)).2 hb
  · have h0 : t.size = 0 := by omega
    rw [← h2]
    exact ba_ext (by simp only [trR]; rw [show t.data.toList = [] from List.length_eq_zero_iff.1 (by rw [← ba_size]; exact h0)]; rfl)

theorem ret_trim (s : ByteArray) (h : s.size ≤ 1000) : Ret Tryd.prog XS 69 [str s, str cutS] (str (trL (trR s))) := by
  have hR := ret_trimR s h
  have hL := ret_trimL (trR s) (Nat.le_trans (trR_size s) h)
  refine strings_Trim_W s (trL (trR s)) ⟨fun e => ?_, fun hne => ⟨fun e => ?_, fun _ => ⟨fun e => ?_, fun _ => ?_⟩⟩⟩
  · subst e; rfl
  · have := congrArg ByteArray.size e; exact absurd this (by decide)
  · exact absurd e (by decide)
  · exact ⟨ret_set, trR s, hR, trL (trR s), hL, rfl⟩

/-- What a name is. -/
def isName (s : ByteArray) : Bool := decide (s.size ≤ 24) && (decide (0 < s.size) && (!decide (s = ({ data := #[109, 105, 110] } : ByteArray)) && (!decide (s = ({ data := #[109, 97, 120] } : ByteArray)) && ((decide (97 ≤ bt s 0) && decide (bt s 0 ≤ 122)) && s.data.toList.all pS))))
theorem ret_name (s : ByteArray) : Ret Tryd.prog XS 66 [str s] (boo (isName s)) := by
  have e0 : s = ({ data := #[] } : ByteArray) ↔ s.size = 0 := ⟨fun h => by subst h; rfl, fun h => ba_ext (by rw [List.length_eq_zero_iff.1 (show s.data.toList.length = 0 by rw [← ba_size]; exact h)])⟩
  refine formula_name_W s (isName s) ⟨fun e => ?_, fun hne => ⟨fun h1 => ?_, fun h1 => ⟨fun e => ?_, fun h2 => ⟨fun e => ?_, fun h3 => ⟨?_, fun h4 => ?_, fun h4 => ⟨fun h5 => ?_, fun h5 => ⟨trL (trR s), ret_trim s (by omega), ?_⟩⟩⟩⟩⟩⟩⟩
  · have := e0.1 e; simp [isName, this]
  · simp [isName, show ¬ (s.size ≤ 24) by omega]
  · simp [isName, e]
  · simp [isName, e]
  · have : s.size ≠ 0 := fun h => hne (e0.2 h)
    exact ⟨by omega, by omega⟩
  · simp [isName, show ¬ (97 ≤ bt s 0) by omega]
  · simp [isName, show ¬ (bt s 0 ≤ 122) by omega]
  · have hz : s.size ≠ 0 := fun h => hne (e0.2 h)
    have hb : ((trL (trR s)).toList == ({ data := #[] } : ByteArray).toList) = s.data.toList.all pS := by
      rw [str_beq, Bool.eq_iff_iff, decide_eq_true_iff, tr_nil]
    rw [hb]
    simp only [isName, show s.size ≤ 24 by omega, show 0 < s.size by omega, h2, h3, show 97 ≤ bt s 0 by omega, show bt s 0 ≤ 122 by omega, decide_true, decide_false, Bool.not_false, Bool.true_and]
end Go.Ab
end

section
namespace Go.Ab
open Go.Proofs
set_option maxRecDepth 100000
set_option linter.unusedVariables false

theorem ret_right (s : ByteArray) : Ret Tryd.prog XS 64 [.agg [int 2, boo false, .sl 1 (([] : List Int).map cU32), .sl 1 (([] : List Int).map cU32), str s, .nil]] (boo (isName s)) := by
  refine formula_right_W s (isName s) ⟨exF_sound extS_sound pOk ex65, isName s, ret_name s, fun h => h, fun h => h⟩
def nameErr (s : ByteArray) : Int := if isName s = true then 0 else 1
theorem ret_fcheck (s : ByteArray) : Ret Tryd.prog XS 54 [.agg [int 2, boo false, .sl 1 (([] : List Int).map cU32), .sl 1 (([] : List Int).map cU32), str s, .nil]] (int (nameErr s)) := by
  refine formula_Check_W s (nameErr s) ⟨nameErr s, ?_, rfl⟩
  refine formula_check_W s (nameErr s) (fun v => v = 0 ∧ isName s = true) (fun _ => 0) ⟨isName s, ret_right s, fun h => ⟨rfl, h⟩, fun h => by simp [nameErr, h]⟩ ?_
  rintro v ⟨rfl, h⟩
  exact ⟨fun h => by omega, fun _ => by simp [nameErr, h]⟩
theorem ret_named (s : ByteArray) : Ret Tryd.prog XS 48 [str s] (boo (isName s)) := by
  refine outline_named_W s (isName s) ⟨nameErr s, ret_fcheck s, ?_⟩
  cases h : isName s <;> simp [nameErr, h]

/-- Whether an edge among these bears the name of e. -/
def bears (l : List Edge) (e : Edge) : Bool := l.any fun y => decide (y.name = e.name)
def firstAt (l : List Edge) (e : Edge) : Int := match l.findIdx? (fun y => decide (y.name = e.name)) with
  | some i => i
  | none => -1
theorem ret_clo (y e : Edge) : Ret Tryd.prog XS 50 [.agg [str y.name, .sl 2 (y.line.map cSpot)], .ref [str e.name, .sl 2 (e.line.map cSpot)]] (boo (decide (y.name = e.name))) :=
  outline_edges_1_W y e _ str_beq.symm
theorem ai_eq {α : Type} [Inhabited α] {l : List α} {i : Nat} (h : i < l.length) : ai l (i : Int) = l[i] := by
  have h1 := ai_some (l := l) (i := i) ⟨by omega, by omega⟩
  rw [show ((i : Int).toNat) = i from rfl, List.getElem?_eq_getElem h] at h1
  exact (Option.some.inj h1).symm
theorem ret_index (l : List Edge) (e : Edge) (hl : l.length ≤ 1000000) : Ret Tryd.prog XS 55 [.sl 2 (l.map cEdge), .fn 50 [] [.ref [str e.name, .sl 2 (e.line.map cSpot)]]] (int (firstAt l e)) := by
  refine slices_IndexFunc_api_Edge_api_Edge_W l e (firstAt l e) (fun v => 0 ≤ v ∧ v ≤ l.length ∧ ∀ j, (h : j < l.length) → (j : Int) < v → ¬ (l[j].name = e.name)) (fun v => l.length - v.toNat) ⟨by omega, by omega, fun j _ hj => by omega⟩ ?_
  rintro v ⟨h0, h1, h2⟩
  obtain ⟨i, rfl⟩ : ∃ i : Nat, v = i := ⟨v.toNat, by omega⟩
  refine ⟨fun hlt => ⟨⟨h0, hlt⟩, _, ret_clo _ e, fun hb => ?_, fun hb => ?_⟩, fun hge => ?_⟩
  · have hi : i < l.length := by omega
    rw [ai_eq hi] at hb
    have : l.findIdx? (fun y => decide (y.name = e.name)) = some i := by
      rw [List.findIdx?_eq_some_iff_getElem]
      exact ⟨hi, hb, fun j hj => by simpa using h2 j (by omega) (by omega)⟩
    simp [firstAt, this]
  · have hi : i < l.length := by omega
    rw [ai_eq hi] at hb
    refine ⟨⟨by omega, by omega⟩, ⟨by omega, by omega, fun j hj hlt => ?_⟩, by dsimp only; omega⟩
    by_cases hji : j = i
    · subst hji; simpa using hb
    · exact h2 j hj (by omega)
  · have : l.findIdx? (fun y => decide (y.name = e.name)) = none := by
      rw [List.findIdx?_eq_none_iff]
      intro x hx
      obtain ⟨j, hj, rfl⟩ := List.getElem_of_mem hx
      simpa using h2 j hj (by omega)
    simp [firstAt, this]
theorem ret_contains (l : List Edge) (e : Edge) (hl : l.length ≤ 1000000) : Ret Tryd.prog XS 49 [.sl 2 (l.map cEdge), .fn 50 [] [.ref [str e.name, .sl 2 (e.line.map cSpot)]]] (boo (bears l e)) := by
  refine slices_ContainsFunc_api_Edge_api_Edge_W l e (bears l e) ⟨firstAt l e, ret_index l e hl, ?_⟩
  unfold firstAt bears
  cases h : l.findIdx? (fun y => decide (y.name = e.name)) with
  | none =>
    rw [List.findIdx?_eq_none_iff] at h
    simp only [show ¬ ((-1 : Int) ≥ 0) by omega, decide_false]
    rw [List.any_eq_false]
    intro x hx; simpa using h x hx
  | some i =>
    obtain ⟨hi, hp, _⟩ := List.findIdx?_eq_some_iff_getElem.1 h
    simp only [show ((i : Int) ≥ 0) by omega, decide_true]
    rw [List.any_eq_true]
    exact ⟨_, List.getElem_mem hi, hp⟩
end Go.Ab
end
