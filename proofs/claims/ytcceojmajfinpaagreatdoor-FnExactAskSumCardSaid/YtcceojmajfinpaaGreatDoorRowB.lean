/-
  The law answers true for every input, with its row and its tied card
-/
import Derived.Test.YtcceojmajfinpaaGreatDoorRowA
section
set_option linter.unusedVariables false
set_option linter.unusedSectionVars false
set_option linter.unusedSimpArgs false
namespace Go.Proofs.YtcceojmajfinpaaGreatDoor
open Go Go.ChangeShapes Go.WideShapes Go.ChangeAt Go.RowKit Go.Vm Go.Vm.T
theorem FnExactAskSum_k0 : Rows.fnExactAskSumRow.wf (OpenSpec.ofChange Rows.fnExactAskSumSpec) = true := by kernel_rfl
theorem FnExactAskSum_k1 : laidOutB Tryz.prog = true := by kernel_rfl
theorem FnExactAskSum_k2 : mapsRowed Tryz.prog = true := by kernel_rfl
theorem FnExactAskSum_k3 : Tryz.f3.params.all (Tryz.prog.readableRec ·) = true := by kernel_rfl
theorem FnExactAskSum_k4 : namedTie Tryz.prog Rows.fnExactAskSumRow.named Rows.fnExactAskSumSpec.vars = true := by kernel_rfl
theorem FnExactAskSum_k5 : (Rows.fnExactAskSumRow.stops == []) = true := by kernel_rfl
theorem FnExactAskSum_k6 : (Tryz.prog.stops == []) = true := by kernel_rfl
theorem FnExactAskSum_k7 : (Rows.fnExactAskSumRow.knobs == []) = true := by kernel_rfl
theorem FnExactAskSum_k8 : (Tryz.prog.stopKnobs == []) = true := by kernel_rfl
theorem FnExactAskSum_k9 : (Rows.fnExactAskSumRow.inPlace == Tryz.prog.inPlace 3) = true := by kernel_rfl
theorem FnExactAskSum_k10 : (Rows.fnExactAskSumRow.unfollowed == Tryz.prog.unfollowed 3) = true := by kernel_rfl
theorem FnExactAskSum_k11 : (Rows.fnExactAskSumRow.recurses == Tryz.prog.recurses 3) = true := by kernel_rfl
theorem FnExactAskSum_k12 : (Rows.fnExactAskSumRow.named == Tryz.prog.varsNamed 3) = true := by kernel_rfl
theorem FnExactAskSum_k13 : (Rows.fnExactAskSumRow.maps == (Tryz.f3.params.toList ++ Rows.fnExactAskSumSpec.plain.varTypes Tryz.prog).any (Tryz.prog.mapsRec ·)) = true := by kernel_rfl
theorem FnExactAskSum_k14 : (Rows.fnExactAskSumRow.ifaces == (Tryz.f3.params.toList ++ Rows.fnExactAskSumSpec.plain.varTypes Tryz.prog).any (Tryz.prog.ifacesRec ·)) = true := by kernel_rfl
theorem FnExactAskSum_k15 : (Rows.fnExactAskSumRow.mapsOut == Tryz.prog.mapsAmong Tryz.f3.resultTypes.toList) = true := by kernel_rfl
theorem FnExactAskSum_k16 : (Rows.fnExactAskSumRow.loops == (Tryz.f3.params.toList ++ Rows.fnExactAskSumSpec.plain.varTypes Tryz.prog).any (Tryz.prog.loopsFrom ·)) = true := by kernel_rfl
end Go.Proofs.YtcceojmajfinpaaGreatDoor
end
