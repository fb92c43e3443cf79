/-
  The law answers true for every input, with its row and its tied card
-/
import Derived.Test.YtcceojmajfinpaaGreatDoorRowB
section
set_option linter.unusedVariables false
set_option linter.unusedSectionVars false
set_option linter.unusedSimpArgs false
namespace Go.Proofs.YtcceojmajfinpaaGreatDoor
open Go Go.ChangeShapes Go.WideShapes Go.ChangeAt Go.RowKit Go.Vm Go.Vm.T
theorem FnExactAskSum_k17 : (Rows.fnExactAskSumRow.wideKeys == (Tryz.f3.params.toList ++ Rows.fnExactAskSumSpec.plain.varTypes Tryz.prog ++ Tryz.f3.resultTypes.toList).any (Tryz.prog.wideKeysFrom ·)) = true := by kernel_rfl
theorem FnExactAskSum_k18 : Rows.fnExactAskSumSpec.vars.all (Tryz.prog.varReadable ·) = true := by kernel_rfl
theorem FnExactAskSum_k19 : Tryz.f3.resultTypes.all (fun t => Tryz.prog.readableRec t && decide (t < Tryz.prog.types.size)) = true := by kernel_rfl
theorem FnExactAskSum_k20 : (Rows.fnExactAskSumRow.ifacesOut == Tryz.f3.resultTypes.toList.any (Tryz.prog.ifacesRec ·)) = true := by kernel_rfl
theorem FnExactAskSum_k21 : (Rows.fnExactAskSumRow.loopsOut == Tryz.f3.resultTypes.toList.any (Tryz.prog.loopsFrom ·)) = true := by kernel_rfl
theorem FnExactAskSum_k22 : (Rows.fnExactAskSumRow.plainKeys == Tryz.prog.plainKeys) = true := by kernel_rfl
theorem FnExactAskSum_k23 : Rows.fnExactAskSumRow.shortTexts.isNone = true := by kernel_rfl
theorem FnExactAskSum_k24 : Tryz.prog.stopsHeard = true := by kernel_rfl
theorem FnExactAskSum_k25 : Tryz.prog.mayEnter = true := by kernel_rfl
theorem FnExactAskSum_k26 : (Rows.fnExactAskSumRow.lifted == Tryz.prog.liftsFinal) = true := by kernel_rfl
theorem FnExactAskSum_k27 : (Tryz.prog.make == some Rows.fnExactAskSumRow.make) = true := by kernel_rfl
theorem FnExactAskSum_k28 : (Rows.fnExactAskSumRow.kinds == (if Rows.fnExactAskSumRow.domain.isEmpty then [] else Tryz.f3.params.toList.map fun t => match Tryz.prog.underlying t with | some (.int k) => some k | _ => none)) = true := by kernel_rfl
theorem FnExactAskSum_k29 : (Rows.fnExactAskSumRow.pinned == Rows.fnExactAskSumRow.pinnedBy) = true := by kernel_rfl
theorem FnExactAskSum_k30 : (Rows.fnExactAskSumRow.veiled == (Tryz.f3.params.toList ++ Rows.fnExactAskSumSpec.plain.varTypes Tryz.prog ++ Tryz.f3.resultTypes.toList).any (Tryz.prog.veiledRec ·)) = true := by kernel_rfl
theorem FnExactAskSum_k31 : Rows.fnExactAskSumRow.veiledFits Tryz.prog Tryz.f3.params.toList (Tryz.f3.params.toList ++ Rows.fnExactAskSumSpec.plain.varTypes Tryz.prog ++ Tryz.f3.resultTypes.toList) = true := by kernel_rfl
end Go.Proofs.YtcceojmajfinpaaGreatDoor
end
