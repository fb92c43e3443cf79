/-
  The law answers true for every input, with its row and its tied card
-/
import Derived.Test.YtcceojmajfinpaaGreatDoorRowC
section
set_option linter.unusedVariables false
set_option linter.unusedSectionVars false
set_option linter.unusedSimpArgs false
namespace Go.Proofs.YtcceojmajfinpaaGreatDoor
open Go Go.ChangeShapes Go.WideShapes Go.ChangeAt Go.RowKit Go.Vm Go.Vm.T
set_option maxRecDepth 100000 in
theorem FnExactAskSum_facts : joinedFacts Tryz.prog 3 Tryz.f3 Rows.fnExactAskSumSpec Rows.fnExactAskSumRow = true := by
  unfold joinedFacts
  exact and_tt (and_tt (and_tt (and_tt (and_tt (and_tt (and_tt (and_tt (and_tt (and_tt (and_tt (and_tt (and_tt (and_tt (and_tt (and_tt (and_tt (and_tt (and_tt (and_tt (and_tt (and_tt (and_tt (and_tt (and_tt (and_tt (and_tt (and_tt (and_tt (and_tt (and_tt FnExactAskSum_k0 FnExactAskSum_k1) FnExactAskSum_k2) FnExactAskSum_k3) FnExactAskSum_k4) FnExactAskSum_k5) FnExactAskSum_k6) FnExactAskSum_k7) FnExactAskSum_k8) FnExactAskSum_k9) FnExactAskSum_k10) FnExactAskSum_k11) FnExactAskSum_k12) FnExactAskSum_k13) FnExactAskSum_k14) FnExactAskSum_k15) FnExactAskSum_k16) FnExactAskSum_k17) FnExactAskSum_k18) FnExactAskSum_k19) FnExactAskSum_k20) FnExactAskSum_k21) FnExactAskSum_k22) FnExactAskSum_k23) FnExactAskSum_k24) FnExactAskSum_k25) FnExactAskSum_k26) FnExactAskSum_k27) FnExactAskSum_k28) FnExactAskSum_k29) FnExactAskSum_k30) FnExactAskSum_k31
theorem FnExactAskSum_holds : Rows.FnExactAskSumSaid :=
  OpenClaim.holds_of_wide 3 Tryz.f3 rfl rfl rfl rfl rfl rfl rfl ⟨rfl, rfl, rfl, rfl, rfl⟩ rfl rfl rfl rfl rfl (by kernel_rfl) Tryz.func3 FnExactAskSum_facts
    (of_decide_eq_true (by kernel_rfl)) (by unfold Func.isWrapper; first | (rw [if_pos (by decide +kernel)]; kernel_rfl) | (rw [if_neg (by decide +kernel)]; exact ⟨rfl, rfl⟩))
    (fun os started H enc _ => FnExactAskSum_lifted os started H enc)
theorem FnExactAskSum_c1 : Rows.fnExactAskSumRow.wfByText (OpenSpec.ofChange Rows.fnExactAskSumSpec) = true := by kernel_rfl
theorem FnExactAskSum_c2 : Tryz.pinned.checked.prog.mainIs = some (((true, "18df492114f05f048a516c273473eecfc9bd9d7f2cdc101cf80181633b1abf28") : Bool × String).1, ((true, "18df492114f05f048a516c273473eecfc9bd9d7f2cdc101cf80181633b1abf28") : Bool × String).2.toList) := by kernel_rfl
theorem FnExactAskSum_c3 : true = Tryz.prog.looks [] := by kernel_rfl
end Go.Proofs.YtcceojmajfinpaaGreatDoor
end
