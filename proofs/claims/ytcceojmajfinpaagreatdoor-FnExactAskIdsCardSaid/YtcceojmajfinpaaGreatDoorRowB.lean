/-
  The law answers true for every input, with its row and its tied card
-/
import Derived.Test.YtcceojmajfinpaaGreatDoorRowA
section
set_option linter.unusedVariables false
set_option linter.unusedSectionVars false
set_option linter.unusedSimpArgs false
namespace Go.Proofs.YtcceojmajfinpaaGreatDoor
open Go Go.ChangeShapes Go.WideShapes Go.ChangeAt Go.RowKit Go.Vm Go.Vm.T
theorem FnExactAskIds_k0 : Rows.fnExactAskIdsRow.wf (OpenSpec.ofChange Rows.fnExactAskIdsSpec) = true := by kernel_rfl
theorem FnExactAskIds_k1 : laidOutB Tryz.prog = true := by kernel_rfl
theorem FnExactAskIds_k2 : mapsRowed Tryz.prog = true := by kernel_rfl
theorem FnExactAskIds_k3 : Tryz.f8.params.all (Tryz.prog.readableRec ·) = true := by kernel_rfl
theorem FnExactAskIds_k4 : namedTie Tryz.prog Rows.fnExactAskIdsRow.named Rows.fnExactAskIdsSpec.vars = true := by kernel_rfl
theorem FnExactAskIds_k5 : (Rows.fnExactAskIdsRow.stops == []) = true := by kernel_rfl
theorem FnExactAskIds_k6 : (Tryz.prog.stops == []) = true := by kernel_rfl
theorem FnExactAskIds_k7 : (Rows.fnExactAskIdsRow.knobs == []) = true := by kernel_rfl
theorem FnExactAskIds_k8 : (Tryz.prog.stopKnobs == []) = true := by kernel_rfl
theorem FnExactAskIds_k9 : (Rows.fnExactAskIdsRow.inPlace == Tryz.prog.inPlace 8) = true := by kernel_rfl
theorem FnExactAskIds_k10 : (Rows.fnExactAskIdsRow.unfollowed == Tryz.prog.unfollowed 8) = true := by kernel_rfl
theorem FnExactAskIds_k11 : (Rows.fnExactAskIdsRow.recurses == Tryz.prog.recurses 8) = true := by kernel_rfl
theorem FnExactAskIds_k12 : (Rows.fnExactAskIdsRow.named == Tryz.prog.varsNamed 8) = true := by kernel_rfl
theorem FnExactAskIds_k13 : (Rows.fnExactAskIdsRow.maps == (Tryz.f8.params.toList ++ Rows.fnExactAskIdsSpec.plain.varTypes Tryz.prog).any (Tryz.prog.mapsRec ·)) = true := by kernel_rfl
theorem FnExactAskIds_k14 : (Rows.fnExactAskIdsRow.ifaces == (Tryz.f8.params.toList ++ Rows.fnExactAskIdsSpec.plain.varTypes Tryz.prog).any (Tryz.prog.ifacesRec ·)) = true := by kernel_rfl
theorem FnExactAskIds_k15 : (Rows.fnExactAskIdsRow.mapsOut == Tryz.prog.mapsAmong Tryz.f8.resultTypes.toList) = true := by kernel_rfl
theorem FnExactAskIds_k16 : (Rows.fnExactAskIdsRow.loops == (Tryz.f8.params.toList ++ Rows.fnExactAskIdsSpec.plain.varTypes Tryz.prog).any (Tryz.prog.loopsFrom ·)) = true := by kernel_rfl
end Go.Proofs.YtcceojmajfinpaaGreatDoor
end
