/- The laws GradeResults and GradeAreas. -/
import Derived.Test.YtmdeiagmlabfmaaGreatDoorZR2
import Derived.Test.YtmdeiagmlabfmaaGreatDoorZLAreasW
import Derived.Test.YtmdeiagmlabfmaaGreatDoorAbRd
import Derived.Test.YtmdeiagmlabfmaaGreatDoorZTy
set_option linter.unusedVariables false
set_option linter.unusedSimpArgs false
set_option linter.unusedSectionVars false

section
namespace Go.Ab
open Go.Proofs
set_option maxRecDepth 10000
set_option linter.unusedVariables false

theorem cr_parts {p : List Spot} (hg : ∀ q, q ∈ p → G q) (h : 0 < p.length) (i : Nat) : (-1099511627776 ≤ (vx p i).x * (vx p (i + 1)).y ∧ (vx p i).x * (vx p (i + 1)).y ≤ 1099511627776) ∧ -1099511627776 ≤ (vx p i).y * (vx p (i + 1)).x ∧ (vx p i).y * (vx p (i + 1)).x ≤ 1099511627776 := by
  obtain ⟨⟨a1, a2⟩, a3, a4⟩ := hg _ (vx_mem h i)
  obtain ⟨⟨b1, b2⟩, b3, b4⟩ := hg _ (vx_mem h (i + 1))
  exact ⟨mul_box (K := 1048576) (L := 1048576) (by omega) (by omega) (by omega) (by omega), mul_box (K := 1048576) (L := 1048576) (by omega) (by omega) (by omega) (by omega)⟩
theorem ret_rtwice {p : List Spot} (hg : ∀ q, q ∈ p → G q) (h40 : p.length ≤ 40) : Ret Tryz.prog XS 42 [.sl 2 (p.map cSpot)] (int (areaL p)) := by
  have bx : ∀ n : Nat, n ≤ p.length → -87960930222080 ≤ sumN (crAt p) n ∧ sumN (crAt p) n ≤ 87960930222080 := fun n hn => by
    by_cases h0 : n = 0
    · subst h0; simp [sumN]
    · have := sumN_box (n := n) (B := 2199023255552) (f := crAt p) fun i _ => by have := cr_parts hg (show 0 < p.length by omega) i; unfold crAt cr; omega
      omega
  refine garmentref11_Twice_W p (areaL p) (fun s v => 0 ≤ v ∧ v ≤ p.length ∧ s = sumN (crAt p) v.toNat) (fun s v => p.length - v.toNat) ⟨by omega, by omega, rfl⟩ ?_
  rintro s v ⟨h0, h1, rfl⟩
  obtain ⟨i, rfl⟩ : ∃ i : Nat, v = i := ⟨v.toNat, by omega⟩
  refine ⟨fun hlt => ?_, fun hge => ?_⟩
  · have hi : i < p.length := by omega
    have hm : (i + 1) % p.length < p.length := Nat.mod_lt _ (by omega)
    have et : ((i : Int) + 1).tmod (p.length : Int) = (((i + 1) % p.length : Nat) : Int) := tmod_nat (by omega) rfl
    have b1 := cr_parts hg (show 0 < p.length by omega) i
    have b2 := bx i (by omega)
    have e : sumN (crAt p) (i : Int).toNat + (vx p i).x * (vx p (i + 1)).y - (vx p i).y * (vx p (i + 1)).x = sumN (crAt p) ((i : Int) + 1).toNat := by
      rw [show ((i : Int) + 1).toNat = i + 1 by omega, show (i : Int).toNat = i from rfl, sumN]; unfold crAt cr; omega
    rw [et, ai_vx rfl hm, vx_mod, ai_vx rfl hi]
    rw [show (i : Int).toNat = i from rfl] at e ⊢
    exact ⟨⟨h0, hlt⟩, ⟨by omega, by omega⟩, by omega, ⟨by omega, by omega⟩, ⟨by omega, by omega⟩, ⟨by omega, by omega⟩, ⟨by omega, by omega⟩, ⟨by omega, by omega⟩, ⟨by omega, by omega, e⟩, by dsimp only; omega⟩
  · rw [show (i : Int).toNat = p.length by omega]; rfl
theorem ret_rarea2 {p : List Spot} (h : Poly p) : Ret Tryz.prog XS 27 [.sl 2 (p.map cSpot)] (int (areaL p)) :=
  garmentref11_Area2_W p _ ⟨_, ret_rpcheck p, fun _ => ⟨_, ret_rtwice h.grid h.forty, rfl⟩, fun hn => absurd (pcheck_zero.2 h) hn⟩
theorem ret_rpolygon {l : List Edge} (h : Outl l) : Ret Tryz.prog XS 26 [.sl 2 (l.map cEdge)] (.tup [.fr 2 ((vertsL l).map cSpot), int 0]) := by
  have := h.sixteen
  exact garmentref20_Polygon_W l _ _ ⟨_, ret_rocheck l, fun _ => ⟨_, ret_rverts l (fun e he => ⟨by have := (h.lines e he).two; omega, (h.lines e he).forty⟩) (by omega), rfl, rfl⟩, fun hn => absurd (ocheck_zero.2 h) hn⟩
theorem ret_rareas (p : Piece) (ms : List Int) (hc : p.corners.length ≤ 1000000) (he : p.edges.length ≤ 1000000) (hn : ms.length ≤ 1000000) : Ret Tryz.prog XS 11 [.agg [str p.name, .sl 2 (p.edges.map cEdge), int p.grain, .sl 2 (p.notches.map cNotch), .sl 2 (p.corners.map cSpot), .sl 1 (p.widths.map cI), boo p.match_], .sl 1 (ms.map cI)] (.tup [.fr 1 ((aRes p ms).map cI), int (aErr p ms)]) := by
  refine garmentref21_Areas_W p ms (aRes p ms) (aErr p ms) (fun o v => 0 ≤ v ∧ v ≤ ms.length ∧ o = (ms.take v.toNat).map (aOf p) ∧ ∀ j : Nat, (h : j < ms.length) → (j : Int) < v → gerr p ms[j] = 0) (fun o v => ms.length - v.toNat) ⟨by omega, by omega, by simp, fun j _ hj => by omega⟩ ?_
  rintro o v ⟨h0, h1, rfl, hj⟩
  obtain ⟨i, rfl⟩ : ∃ i : Nat, v = i := ⟨v.toNat, by omega⟩
  refine ⟨fun hlt => ?_, fun hge => ?_⟩
  · have hi : i < ms.length := by omega
    rw [ai_get rfl hi]
    refine ⟨⟨h0, hlt⟩, _, _, ret_rgraded p _ hc he, fun hz => ?_, fun hz => ?_⟩
    · rw [gres_eq hz]
      have O := ocheck_zero.1 (gerr_inv hz).2.2.2.2
      have ar := area_range O.poly
      have e : (ms.take (i : Int).toNat).map (aOf p) ++ [max (areaL (vertsL (gradedL p ms[i]))) (-areaL (vertsL (gradedL p ms[i])))] = (ms.take ((i : Int) + 1).toNat).map (aOf p) := by
        rw [show ((i : Int) + 1).toNat = i + 1 by omega, show (i : Int).toNat = i from rfl, List.take_add_one, List.map_append]
        simp [hi, aOf]
      refine ⟨_, _, ret_rpolygon O, _, ret_rarea2 O.poly, ⟨by omega, by omega⟩, ?_, ⟨by omega, by omega⟩, ⟨by omega, by omega, e, fun j hjl hjv => ?_⟩, by dsimp only; omega⟩
      · rw [e]; simp only [Cap, List.length_map, List.length_take]; omega
      · by_cases hji : j = i
        · subst hji; exact hz
        · exact hj j hjl (by omega)
    · have e : aErr p ms = gerr p ms[i] := by
        unfold aErr
        rw [find_at (i := i) (by simpa using hi) (fun j hji => by simpa using hj j (by omega) (by omega)) (by simpa using hz)]
        simp
      exact ⟨by rw [aRes, if_neg (by rw [e]; exact hz)], e⟩
  · have e : aErr p ms = 0 := aErr_zero.2 fun m hm => by
      obtain ⟨j, hjl, rfl⟩ := List.getElem_of_mem hm
      exact hj j hjl (by omega)
    exact ⟨by rw [aRes, if_pos e, show (i : Int).toNat = ms.length by omega, List.take_length], e⟩
theorem law_areas (p : Piece) (ms : List Int) : Ret Tryz.prog XS 4 [.agg [str p.name, .sl 2 (p.edges.map cEdge), int p.grain, .sl 2 (p.notches.map cNotch), .sl 2 (p.corners.map cSpot), .sl 1 (p.widths.map cI), boo p.match_], .sl 1 (ms.map cI)] (boo true) := by
  refine garmentlaw21_GradeAreas_W p ms true ⟨_, ret_light p 40 (by omega), fun hl => ⟨fun _ => ⟨_, ret_example, rfl⟩, fun hn => ?_⟩, fun _ => ⟨_, ret_example, rfl⟩⟩
  obtain ⟨l1, l2, l3, l4, l5⟩ := light_inv hl
  have hr : (aRes p ms).length ≤ 1000000 := by unfold aRes; split <;> simp; omega
  exact ⟨_, _, ret_areas p ms (by omega) (by omega), _, _, ret_rareas p ms (by omega) (by omega) (by omega), fun _ => ⟨_, ret_ints _ _ hr, fun _ => ⟨_, ret_example, rfl⟩, fun hf => by simp at hf⟩, fun hn => absurd rfl hn⟩
end Go.Ab
end

section
namespace Go.Ab
open Go.Proofs
set_option linter.unusedVariables false
theorem reads_9 : Reads Tryz.prog 9 (fun x : ByteArray => [str x]) (fun x => x.size ≤ maxLen) := reads_str Tryz.underlying9
theorem reads_3 : Reads Tryz.prog 3 (fun x : Int => [int x]) (fun x => InR x) := (reads_int Tryz.underlying3).map id (fun _ => rfl) (fun _ h => wf_i64 h)
def okSpot (p : Spot) : Prop := (InR p.x) ∧ (InR p.y)
theorem reads_46 : Reads Tryz.prog 46 cSpot okSpot := (reads_struct (P := Tryz.prog) (t := 46) (N := 2) Tryz.underlying46 (by kernel_rfl) (readsF_cons (m := 1) rfl (by kernel_rfl) reads_3 (readsF_cons (m := 1) rfl (by kernel_rfl) reads_3 readsF_nil))).map (fun x => (⟨x.1, x.2.1⟩ : Spot)) (fun _ => rfl) (fun x h => ⟨h.1, h.2.1⟩)
theorem reads_24 : Reads Tryz.prog 24 (fun x : List Spot => [.sl 2 (x.map cSpot)]) (fun x => x.length ≤ maxLen ∧ ∀ a, a ∈ x → okSpot a) := reads_slice (f := cSpot) Tryz.underlying24 (by kernel_rfl) (by decide) reads_46 (fun _ => rfl)
def okEdge (p : Edge) : Prop := (p.name.size ≤ maxLen) ∧ (p.line.length ≤ maxLen ∧ ∀ a, a ∈ p.line → okSpot a)
theorem reads_39 : Reads Tryz.prog 39 cEdge okEdge := (reads_struct (P := Tryz.prog) (t := 39) (N := 2) Tryz.underlying39 (by kernel_rfl) (readsF_cons (m := 1) rfl (by kernel_rfl) reads_9 (readsF_cons (m := 1) rfl (by kernel_rfl) reads_24 readsF_nil))).map (fun x => (⟨x.1, x.2.1⟩ : Edge)) (fun _ => rfl) (fun x h => ⟨h.1, h.2.1⟩)
theorem reads_22 : Reads Tryz.prog 22 (fun x : List Edge => [.sl 2 (x.map cEdge)]) (fun x => x.length ≤ maxLen ∧ ∀ a, a ∈ x → okEdge a) := reads_slice (f := cEdge) Tryz.underlying22 (by kernel_rfl) (by decide) reads_39 (fun _ => rfl)
def okNotch (p : Notch) : Prop := (InR p.edge) ∧ (InR p.at_)
theorem reads_48 : Reads Tryz.prog 48 cNotch okNotch := (reads_struct (P := Tryz.prog) (t := 48) (N := 2) Tryz.underlying48 (by kernel_rfl) (readsF_cons (m := 1) rfl (by kernel_rfl) reads_3 (readsF_cons (m := 1) rfl (by kernel_rfl) reads_3 readsF_nil))).map (fun x => (⟨x.1, x.2.1⟩ : Notch)) (fun _ => rfl) (fun x h => ⟨h.1, h.2.1⟩)
theorem reads_23 : Reads Tryz.prog 23 (fun x : List Notch => [.sl 2 (x.map cNotch)]) (fun x => x.length ≤ maxLen ∧ ∀ a, a ∈ x → okNotch a) := reads_slice (f := cNotch) Tryz.underlying23 (by kernel_rfl) (by decide) reads_48 (fun _ => rfl)
theorem reads_25 : Reads Tryz.prog 25 (fun x : List Int => [.sl 1 (x.map cI)]) (fun x => x.length ≤ maxLen ∧ ∀ a, a ∈ x → InR a) := reads_slice (f := cI) Tryz.underlying25 (by kernel_rfl) (by decide) reads_3 (fun _ => rfl)
theorem reads_4 : Reads Tryz.prog 4 (fun x : Bool => [boo x]) (fun _ => True) := reads_bool Tryz.underlying4
def okPiece (p : Piece) : Prop := (p.name.size ≤ maxLen) ∧ (p.edges.length ≤ maxLen ∧ ∀ a, a ∈ p.edges → okEdge a) ∧ (InR p.grain) ∧ (p.notches.length ≤ maxLen ∧ ∀ a, a ∈ p.notches → okNotch a) ∧ (p.corners.length ≤ maxLen ∧ ∀ a, a ∈ p.corners → okSpot a) ∧ (p.widths.length ≤ maxLen ∧ ∀ a, a ∈ p.widths → InR a) ∧ (True)
theorem reads_27 : Reads Tryz.prog 27 cPiece okPiece := (reads_struct (P := Tryz.prog) (t := 27) (N := 7) Tryz.underlying27 (by kernel_rfl) (readsF_cons (m := 1) rfl (by kernel_rfl) reads_9 (readsF_cons (m := 1) rfl (by kernel_rfl) reads_22 (readsF_cons (m := 1) rfl (by kernel_rfl) reads_3 (readsF_cons (m := 1) rfl (by kernel_rfl) reads_23 (readsF_cons (m := 1) rfl (by kernel_rfl) reads_24 (readsF_cons (m := 1) rfl (by kernel_rfl) reads_25 (readsF_cons (m := 1) rfl (by kernel_rfl) reads_4 readsF_nil)))))))).map (fun x => (⟨x.1, x.2.1, x.2.2.1, x.2.2.2.1, x.2.2.2.2.1, x.2.2.2.2.2.1, x.2.2.2.2.2.2.1⟩ : Piece)) (fun _ => rfl) (fun x h => ⟨h.1, h.2.1, h.2.2.1, h.2.2.2.1, h.2.2.2.2.1, h.2.2.2.2.2.1, h.2.2.2.2.2.2.1⟩)
end Go.Ab
end
