/-
  The law answers true for every input, with its row and its tied card
-/
import Derived.Test.YtcceojmajfinpaaGreatDoorRowB
section
set_option linter.unusedVariables false
set_option linter.unusedSectionVars false
set_option linter.unusedSimpArgs false
namespace Go.Proofs.YtcceojmajfinpaaGreatDoor
open Go Go.ChangeShapes Go.WideShapes Go.ChangeAt Go.RowKit Go.Vm Go.Vm.T
theorem FnExactAskIds_k17 : (Rows.fnExactAskIdsRow.wideKeys == (Tryz.f8.params.toList ++ Rows.fnExactAskIdsSpec.plain.varTypes Tryz.prog ++ Tryz.f8.resultTypes.toList).any (Tryz.prog.wideKeysFrom ·)) = true := by kernel_rfl
theorem FnExactAskIds_k18 : Rows.fnExactAskIdsSpec.vars.all (Tryz.prog.varReadable ·) = true := by kernel_rfl
theorem FnExactAskIds_k19 : Tryz.f8.resultTypes.all (fun t => Tryz.prog.readableRec t && decide (t < Tryz.prog.types.size)) = true := by kernel_rfl
theorem FnExactAskIds_k20 : (Rows.fnExactAskIdsRow.ifacesOut == Tryz.f8.resultTypes.toList.any (Tryz.prog.ifacesRec ·)) = true := by kernel_rfl
theorem FnExactAskIds_k21 : (Rows.fnExactAskIdsRow.loopsOut == Tryz.f8.resultTypes.toList.any (Tryz.prog.loopsFrom ·)) = true := by kernel_rfl
theorem FnExactAskIds_k22 : (Rows.fnExactAskIdsRow.plainKeys == Tryz.prog.plainKeys) = true := by kernel_rfl
theorem FnExactAskIds_k23 : Rows.fnExactAskIdsRow.shortTexts.isNone = true := by kernel_rfl
theorem FnExactAskIds_k24 : Tryz.prog.stopsHeard = true := by kernel_rfl
theorem FnExactAskIds_k25 : Tryz.prog.mayEnter = true := by kernel_rfl
theorem FnExactAskIds_k26 : (Rows.fnExactAskIdsRow.lifted == Tryz.prog.liftsFinal) = true := by kernel_rfl
theorem FnExactAskIds_k27 : (Tryz.prog.make == some Rows.fnExactAskIdsRow.make) = true := by kernel_rfl
theorem FnExactAskIds_k28 : (Rows.fnExactAskIdsRow.kinds == (if Rows.fnExactAskIdsRow.domain.isEmpty then [] else Tryz.f8.params.toList.map fun t => match Tryz.prog.underlying t with | some (.int k) => some k | _ => none)) = true := by kernel_rfl
theorem FnExactAskIds_k29 : (Rows.fnExactAskIdsRow.pinned == Rows.fnExactAskIdsRow.pinnedBy) = true := by kernel_rfl
theorem FnExactAskIds_k30 : (Rows.fnExactAskIdsRow.veiled == (Tryz.f8.params.toList ++ Rows.fnExactAskIdsSpec.plain.varTypes Tryz.prog ++ Tryz.f8.resultTypes.toList).any (Tryz.prog.veiledRec ·)) = true := by kernel_rfl
theorem FnExactAskIds_k31 : Rows.fnExactAskIdsRow.veiledFits Tryz.prog Tryz.f8.params.toList (Tryz.f8.params.toList ++ Rows.fnExactAskIdsSpec.plain.varTypes Tryz.prog ++ Tryz.f8.resultTypes.toList) = true := by kernel_rfl
end Go.Proofs.YtcceojmajfinpaaGreatDoor
end
