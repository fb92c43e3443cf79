/-
  The law answers true for every input, with its row and its tied card
-/
import Derived.Test.YtcceojmajfinpaaGreatDoorRowB
section
set_option linter.unusedVariables false
set_option linter.unusedSectionVars false
set_option linter.unusedSimpArgs false
namespace Go.Proofs.YtcceojmajfinpaaGreatDoor
open Go Go.ChangeShapes Go.WideShapes Go.ChangeAt Go.RowKit Go.Vm Go.Vm.T
theorem Z8n : (Rows.fnExactIndexOfRow.wideKeys == (Tryz.f12.params.toList ++ Rows.fnExactIndexOfSpec.plain.varTypes Tryz.prog ++ Tryz.f12.resultTypes.toList).any (Tryz.prog.wideKeysFrom ·)) = true := by kernel_rfl
theorem Z8b : Rows.fnExactIndexOfSpec.vars.all (Tryz.prog.varReadable ·) = true := by kernel_rfl
theorem Z7t : Tryz.f12.resultTypes.all (fun t => Tryz.prog.readableRec t && decide (t < Tryz.prog.types.size)) = true := by kernel_rfl
theorem Z8m : (Rows.fnExactIndexOfRow.ifacesOut == Tryz.f12.resultTypes.toList.any (Tryz.prog.ifacesRec ·)) = true := by kernel_rfl
theorem Z8t : (Rows.fnExactIndexOfRow.loopsOut == Tryz.f12.resultTypes.toList.any (Tryz.prog.loopsFrom ·)) = true := by kernel_rfl
theorem Z8a : (Rows.fnExactIndexOfRow.plainKeys == Tryz.prog.plainKeys) = true := by kernel_rfl
theorem Z8c : Rows.fnExactIndexOfRow.shortTexts.isNone = true := by kernel_rfl
theorem Z8h : Tryz.prog.stopsHeard = true := by kernel_rfl
theorem Z8d : Tryz.prog.mayEnter = true := by kernel_rfl
theorem Z7i : (Rows.fnExactIndexOfRow.lifted == Tryz.prog.liftsFinal) = true := by kernel_rfl
theorem Z8f : (Tryz.prog.make == some Rows.fnExactIndexOfRow.make) = true := by kernel_rfl
theorem Z8g : (Rows.fnExactIndexOfRow.kinds == (if Rows.fnExactIndexOfRow.domain.isEmpty then [] else Tryz.f12.params.toList.map fun t => match Tryz.prog.underlying t with | some (.int k) => some k | _ => none)) = true := by kernel_rfl
theorem Z89 : (Rows.fnExactIndexOfRow.pinned == Rows.fnExactIndexOfRow.pinnedBy) = true := by kernel_rfl
theorem Z8j : (Rows.fnExactIndexOfRow.veiled == (Tryz.f12.params.toList ++ Rows.fnExactIndexOfSpec.plain.varTypes Tryz.prog ++ Tryz.f12.resultTypes.toList).any (Tryz.prog.veiledRec ·)) = true := by kernel_rfl
theorem Z85 : Rows.fnExactIndexOfRow.veiledFits Tryz.prog Tryz.f12.params.toList (Tryz.f12.params.toList ++ Rows.fnExactIndexOfSpec.plain.varTypes Tryz.prog ++ Tryz.f12.resultTypes.toList) = true := by kernel_rfl
end Go.Proofs.YtcceojmajfinpaaGreatDoor
end
