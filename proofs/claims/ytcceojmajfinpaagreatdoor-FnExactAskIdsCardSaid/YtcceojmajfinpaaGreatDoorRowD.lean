/-
  The law answers true for every input, with its row and its tied card
-/
import Derived.Test.YtcceojmajfinpaaGreatDoorRowC
section
set_option linter.unusedVariables false
set_option linter.unusedSectionVars false
set_option linter.unusedSimpArgs false
namespace Go.Proofs.YtcceojmajfinpaaGreatDoor
open Go Go.ChangeShapes Go.WideShapes Go.ChangeAt Go.RowKit Go.Vm Go.Vm.T
set_option maxRecDepth 100000 in
theorem FnExactAskIds_facts : joinedFacts Tryz.prog 8 Tryz.f8 Rows.fnExactAskIdsSpec Rows.fnExactAskIdsRow = true := by
  unfold joinedFacts
  exact and_tt (and_tt (and_tt (and_tt (and_tt (and_tt (and_tt (and_tt (and_tt (and_tt (and_tt (and_tt (and_tt (and_tt (and_tt (and_tt (and_tt (and_tt (and_tt (and_tt (and_tt (and_tt (and_tt (and_tt (and_tt (and_tt (and_tt (and_tt (and_tt (and_tt (and_tt FnExactAskIds_k0 FnExactAskIds_k1) FnExactAskIds_k2) FnExactAskIds_k3) FnExactAskIds_k4) FnExactAskIds_k5) FnExactAskIds_k6) FnExactAskIds_k7) FnExactAskIds_k8) FnExactAskIds_k9) FnExactAskIds_k10) FnExactAskIds_k11) FnExactAskIds_k12) FnExactAskIds_k13) FnExactAskIds_k14) FnExactAskIds_k15) FnExactAskIds_k16) FnExactAskIds_k17) FnExactAskIds_k18) FnExactAskIds_k19) FnExactAskIds_k20) FnExactAskIds_k21) FnExactAskIds_k22) FnExactAskIds_k23) FnExactAskIds_k24) FnExactAskIds_k25) FnExactAskIds_k26) FnExactAskIds_k27) FnExactAskIds_k28) FnExactAskIds_k29) FnExactAskIds_k30) FnExactAskIds_k31
theorem FnExactAskIds_holds : Rows.FnExactAskIdsSaid :=
  OpenClaim.holds_of_wide 8 Tryz.f8 rfl rfl rfl rfl rfl rfl rfl ⟨rfl, rfl, rfl, rfl, rfl⟩ rfl rfl rfl rfl rfl (by kernel_rfl) Tryz.func8 FnExactAskIds_facts
    (of_decide_eq_true (by kernel_rfl)) (by unfold Func.isWrapper; first | (rw [if_pos (by decide +kernel)]; kernel_rfl) | (rw [if_neg (by decide +kernel)]; exact ⟨rfl, rfl⟩))
    (fun os started H enc _ => FnExactAskIds_lifted os started H enc)
theorem FnExactAskIds_c1 : Rows.fnExactAskIdsRow.wfByText (OpenSpec.ofChange Rows.fnExactAskIdsSpec) = true := by kernel_rfl
theorem FnExactAskIds_c2 : Tryz.pinned.checked.prog.mainIs = some (((true, "18df492114f05f048a516c273473eecfc9bd9d7f2cdc101cf80181633b1abf28") : Bool × String).1, ((true, "18df492114f05f048a516c273473eecfc9bd9d7f2cdc101cf80181633b1abf28") : Bool × String).2.toList) := by kernel_rfl
theorem FnExactAskIds_c3 : true = Tryz.prog.looks [] := by kernel_rfl
end Go.Proofs.YtcceojmajfinpaaGreatDoor
end
