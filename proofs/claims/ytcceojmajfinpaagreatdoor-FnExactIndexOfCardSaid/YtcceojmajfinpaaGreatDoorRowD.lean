/-
  The law answers true for every input, with its row and its tied card
-/
import Derived.Test.YtcceojmajfinpaaGreatDoorRowC
section
set_option linter.unusedVariables false
set_option linter.unusedSectionVars false
set_option linter.unusedSimpArgs false
namespace Go.Proofs.YtcceojmajfinpaaGreatDoor
open Go Go.ChangeShapes Go.WideShapes Go.ChangeAt Go.RowKit Go.Vm Go.Vm.T
set_option maxRecDepth 100000 in
theorem Z6h : joinedFacts Tryz.prog 12 Tryz.f12 Rows.fnExactIndexOfSpec Rows.fnExactIndexOfRow = true := by
 unfold joinedFacts
 exact Xu (Xu (Xu (Xu (Xu (Xu (Xu (Xu (Xu (Xu (Xu (Xu (Xu (Xu (Xu (Xu (Xu (Xu (Xu (Xu (Xu (Xu (Xu (Xu (Xu (Xu (Xu (Xu (Xu (Xu (Xu Z9o Z9u) Z9a) Z9x) Z9r) Za3) Z9g) Z99) Z9d) Za2) Z8r) Z8v) Z87) Z81) Z7n) Z7s) Z7j) Z8n) Z8b) Z7t) Z8m) Z8t) Z8a) Z8c) Z8h) Z8d) Z7i) Z8f) Z8g) Z89) Z8j) Z85
theorem Z6j : Rows.FnExactIndexOfSaid :=
 OpenClaim.holds_of_wide 12 Tryz.f12 rfl rfl rfl rfl rfl rfl rfl ⟨rfl, rfl, rfl, rfl, rfl⟩ rfl rfl rfl rfl rfl (by kernel_rfl) Tryz.func12 Z6h
  (of_decide_eq_true (by kernel_rfl)) (by unfold Func.isWrapper; first | (rw [if_pos (by decide +kernel)]; kernel_rfl) | (rw [if_neg (by decide +kernel)]; exact ⟨rfl, rfl⟩))
  (fun os started H enc _ => Z5a os started H enc)
theorem Z91 : Rows.fnExactIndexOfRow.wfByText (OpenSpec.ofChange Rows.fnExactIndexOfSpec) = true := by kernel_rfl
theorem Z92 : Tryz.pinned.checked.prog.mainIs = some (((true, "18df492114f05f048a516c273473eecfc9bd9d7f2cdc101cf80181633b1abf28") : Bool × String).1, ((true, "18df492114f05f048a516c273473eecfc9bd9d7f2cdc101cf80181633b1abf28") : Bool × String).2.toList) := by kernel_rfl
theorem Z9i : true = Tryz.prog.looks [] := by kernel_rfl
end Go.Proofs.YtcceojmajfinpaaGreatDoor
end
