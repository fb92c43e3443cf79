/-
  The law answers true for every input, with its row and its tied card
-/
import Derived.Test.YtcceojmajfinpaaGreatDoorRowA
section
set_option linter.unusedVariables false
set_option linter.unusedSectionVars false
set_option linter.unusedSimpArgs false
namespace Go.Proofs.YtcceojmajfinpaaGreatDoor
open Go Go.ChangeShapes Go.WideShapes Go.ChangeAt Go.RowKit Go.Vm Go.Vm.T
theorem Z9o : Rows.fnExactIndexOfRow.wf (OpenSpec.ofChange Rows.fnExactIndexOfSpec) = true := by kernel_rfl
theorem Z9u : laidOutB Tryz.prog = true := by kernel_rfl
theorem Z9a : mapsRowed Tryz.prog = true := by kernel_rfl
theorem Z9x : Tryz.f12.params.all (Tryz.prog.readableRec ·) = true := by kernel_rfl
theorem Z9r : namedTie Tryz.prog Rows.fnExactIndexOfRow.named Rows.fnExactIndexOfSpec.vars = true := by kernel_rfl
theorem Za3 : (Rows.fnExactIndexOfRow.stops == []) = true := by kernel_rfl
theorem Z9g : (Tryz.prog.stops == []) = true := by kernel_rfl
theorem Z99 : (Rows.fnExactIndexOfRow.knobs == []) = true := by kernel_rfl
theorem Z9d : (Tryz.prog.stopKnobs == []) = true := by kernel_rfl
theorem Za2 : (Rows.fnExactIndexOfRow.inPlace == Tryz.prog.inPlace 12) = true := by kernel_rfl
theorem Z8r : (Rows.fnExactIndexOfRow.unfollowed == Tryz.prog.unfollowed 12) = true := by kernel_rfl
theorem Z8v : (Rows.fnExactIndexOfRow.recurses == Tryz.prog.recurses 12) = true := by kernel_rfl
theorem Z87 : (Rows.fnExactIndexOfRow.named == Tryz.prog.varsNamed 12) = true := by kernel_rfl
theorem Z81 : (Rows.fnExactIndexOfRow.maps == (Tryz.f12.params.toList ++ Rows.fnExactIndexOfSpec.plain.varTypes Tryz.prog).any (Tryz.prog.mapsRec ·)) = true := by kernel_rfl
theorem Z7n : (Rows.fnExactIndexOfRow.ifaces == (Tryz.f12.params.toList ++ Rows.fnExactIndexOfSpec.plain.varTypes Tryz.prog).any (Tryz.prog.ifacesRec ·)) = true := by kernel_rfl
theorem Z7s : (Rows.fnExactIndexOfRow.mapsOut == Tryz.prog.mapsAmong Tryz.f12.resultTypes.toList) = true := by kernel_rfl
theorem Z7j : (Rows.fnExactIndexOfRow.loops == (Tryz.f12.params.toList ++ Rows.fnExactIndexOfSpec.plain.varTypes Tryz.prog).any (Tryz.prog.loopsFrom ·)) = true := by kernel_rfl
end Go.Proofs.YtcceojmajfinpaaGreatDoor
end
