/-
  The law answers true for every input, with its row and its tied card
-/
import Derived.Test.YtcceojmajfinpaaGreatDoorRowqA
namespace Go.Proofs.YtcceojmajfinpaaGreatDoor
open Go Go.ChangeShapes Go.WideShapes Go.ChangeAt Go.RowKit Go.Vm Go.Vm.T
theorem Zne : Rows.fnAskMoreRow.wf (OpenSpec.ofChange Rows.fnAskMoreSpec) = true := by kernel_rfl
theorem Znk : laidOutB Tryz.prog = true := by kernel_rfl
theorem Zlg : mapsRowed Tryz.prog = true := by kernel_rfl
theorem Zoj : Tryz.f5.params.all (Tryz.prog.readableRec ·) = true := by kernel_rfl
theorem Zny : namedTie Tryz.prog Rows.fnAskMoreRow.named Rows.fnAskMoreSpec.vars = true := by kernel_rfl
theorem Zmp : (Rows.fnAskMoreRow.stops == []) = true := by kernel_rfl
theorem Zm0 : (Tryz.prog.stops == []) = true := by kernel_rfl
theorem Zly : (Rows.fnAskMoreRow.knobs == []) = true := by kernel_rfl
theorem Zlu : (Tryz.prog.stopKnobs == []) = true := by kernel_rfl
theorem Zmx : (Rows.fnAskMoreRow.inPlace == Tryz.prog.inPlace 5) = true := by kernel_rfl
theorem Zil : (Rows.fnAskMoreRow.unfollowed == Tryz.prog.unfollowed 5) = true := by kernel_rfl
theorem Zif : (Rows.fnAskMoreRow.recurses == Tryz.prog.recurses 5) = true := by kernel_rfl
theorem Zi3 : (Rows.fnAskMoreRow.named == Tryz.prog.varsNamed 5) = true := by kernel_rfl
theorem Zj6 : (Rows.fnAskMoreRow.maps == (Tryz.f5.params.toList ++ Rows.fnAskMoreSpec.plain.varTypes Tryz.prog).any (Tryz.prog.mapsRec ·)) = true := by kernel_rfl
theorem Ziq : (Rows.fnAskMoreRow.ifaces == (Tryz.f5.params.toList ++ Rows.fnAskMoreSpec.plain.varTypes Tryz.prog).any (Tryz.prog.ifacesRec ·)) = true := by kernel_rfl
theorem Zj7 : (Rows.fnAskMoreRow.mapsOut == Tryz.prog.mapsAmong Tryz.f5.resultTypes.toList) = true := by kernel_rfl
theorem Zjw : (Rows.fnAskMoreRow.loops == (Tryz.f5.params.toList ++ Rows.fnAskMoreSpec.plain.varTypes Tryz.prog).any (Tryz.prog.loopsFrom ·)) = true := by kernel_rfl
end Go.Proofs.YtcceojmajfinpaaGreatDoor
