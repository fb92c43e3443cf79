/-
  The law answers true for every input, with its row and its tied card
-/
import Derived.Test.YtcceojmajfinpaaGreatDoorRowpA
namespace Go.Proofs.YtcceojmajfinpaaGreatDoor
open Go Go.ChangeShapes Go.WideShapes Go.ChangeAt Go.RowKit Go.Vm Go.Vm.T
theorem Zlb : Rows.fnAskFindRow.wf (OpenSpec.ofChange Rows.fnAskFindSpec) = true := by kernel_rfl
theorem Zmr : laidOutB Tryz.prog = true := by kernel_rfl
theorem Zm3 : mapsRowed Tryz.prog = true := by kernel_rfl
theorem Znr : Tryz.f4.params.all (Tryz.prog.readableRec ·) = true := by kernel_rfl
theorem Zm4 : namedTie Tryz.prog Rows.fnAskFindRow.named Rows.fnAskFindSpec.vars = true := by kernel_rfl
theorem Zm5 : (Rows.fnAskFindRow.stops == []) = true := by kernel_rfl
theorem Zlm : (Tryz.prog.stops == []) = true := by kernel_rfl
theorem Zn0 : (Rows.fnAskFindRow.knobs == []) = true := by kernel_rfl
theorem Zm1 : (Tryz.prog.stopKnobs == []) = true := by kernel_rfl
theorem Zor : (Rows.fnAskFindRow.inPlace == Tryz.prog.inPlace 4) = true := by kernel_rfl
theorem Zit : (Rows.fnAskFindRow.unfollowed == Tryz.prog.unfollowed 4) = true := by kernel_rfl
theorem Zkn : (Rows.fnAskFindRow.recurses == Tryz.prog.recurses 4) = true := by kernel_rfl
theorem Zi2 : (Rows.fnAskFindRow.named == Tryz.prog.varsNamed 4) = true := by kernel_rfl
theorem Zjj : (Rows.fnAskFindRow.maps == (Tryz.f4.params.toList ++ Rows.fnAskFindSpec.plain.varTypes Tryz.prog).any (Tryz.prog.mapsRec ·)) = true := by kernel_rfl
theorem Zip : (Rows.fnAskFindRow.ifaces == (Tryz.f4.params.toList ++ Rows.fnAskFindSpec.plain.varTypes Tryz.prog).any (Tryz.prog.ifacesRec ·)) = true := by kernel_rfl
theorem Zkk : (Rows.fnAskFindRow.mapsOut == Tryz.prog.mapsAmong Tryz.f4.resultTypes.toList) = true := by kernel_rfl
theorem Zjq : (Rows.fnAskFindRow.loops == (Tryz.f4.params.toList ++ Rows.fnAskFindSpec.plain.varTypes Tryz.prog).any (Tryz.prog.loopsFrom ·)) = true := by kernel_rfl
end Go.Proofs.YtcceojmajfinpaaGreatDoor
