/- The laws GradeResults and GradeAreas. -/
import Derived.Test.YtmdeiagmlabfmaaGreatDoorZR2
import Derived.Test.YtmdeiagmlabfmaaGreatDoorZLAreasW
import Derived.Test.YtmdeiagmlabfmaaGreatDoorAbRd
import Derived.Test.YtmdeiagmlabfmaaGreatDoorZTy
set_option linter.unusedVariables false
set_option linter.unusedSimpArgs false
set_option linter.unusedSectionVars false

section
namespace Go.Ab
open Go.Proofs
set_option maxRecDepth 10000
set_option linter.unusedVariables false

theorem gres_lines (p : Piece) (m : Int) : (gres p m).length ≤ 1000000 ∧ ∀ e, e ∈ gres p m → e.line.length ≤ 1000000 := by
  unfold gres
  split
  · rename_i hz
    have O := ocheck_zero.1 (gerr_inv hz).2.2.2.2
    have := O.sixteen
    exact ⟨by omega, fun e he => by have := (O.lines e he).forty; omega⟩
  · exact ⟨by simp, fun e he => by simp at he⟩
theorem law_results (p : Piece) (m : Int) : Ret Tryz.prog XS 3 [.agg [str p.name, .sl 2 (p.edges.map cEdge), int p.grain, .sl 2 (p.notches.map cNotch), .sl 2 (p.corners.map cSpot), .sl 1 (p.widths.map cI), boo p.match_], int m] (boo true) := by
  refine garmentlaw21_GradeResults_W p m true ⟨_, ret_light p 60 (by omega), fun hl => ?_, fun _ => ⟨_, ret_example, rfl⟩⟩
  obtain ⟨l1, l2, l3, l4, l5⟩ := light_inv hl
  exact ⟨_, _, ret_graded p m (by omega), _, _, ret_rgraded p m (by omega) (by omega), fun _ => ⟨_, ret_sameE _ _ (gres_lines p m).1 (gres_lines p m).2, fun _ => ⟨_, ret_example, rfl⟩, fun hf => by simp at hf⟩, fun hn => absurd rfl hn⟩
end Go.Ab
end

section
namespace Go.Ab
open Go.Proofs
set_option linter.unusedVariables false
theorem reads_9 : Reads Tryz.prog 9 (fun x : ByteArray => [str x]) (fun x => x.size ≤ maxLen) := reads_str Tryz.underlying9
theorem reads_3 : Reads Tryz.prog 3 (fun x : Int => [int x]) (fun x => InR x) := (reads_int Tryz.underlying3).map id (fun _ => rfl) (fun _ h => wf_i64 h)
def okSpot (p : Spot) : Prop := (InR p.x) ∧ (InR p.y)
theorem reads_46 : Reads Tryz.prog 46 cSpot okSpot := (reads_struct (P := Tryz.prog) (t := 46) (N := 2) Tryz.underlying46 (by kernel_rfl) (readsF_cons (m := 1) rfl (by kernel_rfl) reads_3 (readsF_cons (m := 1) rfl (by kernel_rfl) reads_3 readsF_nil))).map (fun x => (⟨x.1, x.2.1⟩ : Spot)) (fun _ => rfl) (fun x h => ⟨h.1, h.2.1⟩)
theorem reads_24 : Reads Tryz.prog 24 (fun x : List Spot => [.sl 2 (x.map cSpot)]) (fun x => x.length ≤ maxLen ∧ ∀ a, a ∈ x → okSpot a) := reads_slice (f := cSpot) Tryz.underlying24 (by kernel_rfl) (by decide) reads_46 (fun _ => rfl)
def okEdge (p : Edge) : Prop := (p.name.size ≤ maxLen) ∧ (p.line.length ≤ maxLen ∧ ∀ a, a ∈ p.line → okSpot a)
theorem reads_39 : Reads Tryz.prog 39 cEdge okEdge := (reads_struct (P := Tryz.prog) (t := 39) (N := 2) Tryz.underlying39 (by kernel_rfl) (readsF_cons (m := 1) rfl (by kernel_rfl) reads_9 (readsF_cons (m := 1) rfl (by kernel_rfl) reads_24 readsF_nil))).map (fun x => (⟨x.1, x.2.1⟩ : Edge)) (fun _ => rfl) (fun x h => ⟨h.1, h.2.1⟩)
theorem reads_22 : Reads Tryz.prog 22 (fun x : List Edge => [.sl 2 (x.map cEdge)]) (fun x => x.length ≤ maxLen ∧ ∀ a, a ∈ x → okEdge a) := reads_slice (f := cEdge) Tryz.underlying22 (by kernel_rfl) (by decide) reads_39 (fun _ => rfl)
def okNotch (p : Notch) : Prop := (InR p.edge) ∧ (InR p.at_)
theorem reads_48 : Reads Tryz.prog 48 cNotch okNotch := (reads_struct (P := Tryz.prog) (t := 48) (N := 2) Tryz.underlying48 (by kernel_rfl) (readsF_cons (m := 1) rfl (by kernel_rfl) reads_3 (readsF_cons (m := 1) rfl (by kernel_rfl) reads_3 readsF_nil))).map (fun x => (⟨x.1, x.2.1⟩ : Notch)) (fun _ => rfl) (fun x h => ⟨h.1, h.2.1⟩)
theorem reads_23 : Reads Tryz.prog 23 (fun x : List Notch => [.sl 2 (x.map cNotch)]) (fun x => x.length ≤ maxLen ∧ ∀ a, a ∈ x → okNotch a) := reads_slice (f := cNotch) Tryz.underlying23 (by kernel_rfl) (by decide) reads_48 (fun _ => rfl)
theorem reads_25 : Reads Tryz.prog 25 (fun x : List Int => [.sl 1 (x.map cI)]) (fun x => x.length ≤ maxLen ∧ ∀ a, a ∈ x → InR a) := reads_slice (f := cI) Tryz.underlying25 (by kernel_rfl) (by decide) reads_3 (fun _ => rfl)
theorem reads_4 : Reads Tryz.prog 4 (fun x : Bool => [boo x]) (fun _ => True) := reads_bool Tryz.underlying4
def okPiece (p : Piece) : Prop := (p.name.size ≤ maxLen) ∧ (p.edges.length ≤ maxLen ∧ ∀ a, a ∈ p.edges → okEdge a) ∧ (InR p.grain) ∧ (p.notches.length ≤ maxLen ∧ ∀ a, a ∈ p.notches → okNotch a) ∧ (p.corners.length ≤ maxLen ∧ ∀ a, a ∈ p.corners → okSpot a) ∧ (p.widths.length ≤ maxLen ∧ ∀ a, a ∈ p.widths → InR a) ∧ (True)
theorem reads_27 : Reads Tryz.prog 27 cPiece okPiece := (reads_struct (P := Tryz.prog) (t := 27) (N := 7) Tryz.underlying27 (by kernel_rfl) (readsF_cons (m := 1) rfl (by kernel_rfl) reads_9 (readsF_cons (m := 1) rfl (by kernel_rfl) reads_22 (readsF_cons (m := 1) rfl (by kernel_rfl) reads_3 (readsF_cons (m := 1) rfl (by kernel_rfl) reads_23 (readsF_cons (m := 1) rfl (by kernel_rfl) reads_24 (readsF_cons (m := 1) rfl (by kernel_rfl) reads_25 (readsF_cons (m := 1) rfl (by kernel_rfl) reads_4 readsF_nil)))))))).map (fun x => (⟨x.1, x.2.1, x.2.2.1, x.2.2.2.1, x.2.2.2.2.1, x.2.2.2.2.2.1, x.2.2.2.2.2.2.1⟩ : Piece)) (fun _ => rfl) (fun x h => ⟨h.1, h.2.1, h.2.2.1, h.2.2.2.1, h.2.2.2.2.1, h.2.2.2.2.2.1, h.2.2.2.2.2.2.1⟩)
end Go.Ab
end
