/-
  The law answers true for every input, with its row and its tied card
-/
import Derived.Test.YtcceojmajfinpaaGreatDoorRowA
namespace Go.Proofs.YtcceojmajfinpaaGreatDoor
open Go Go.ChangeShapes Go.WideShapes Go.ChangeAt Go.RowKit Go.Vm Go.Vm.T
theorem Zkz : Rows.fnIndexOfRow.wf (OpenSpec.ofChange Rows.fnIndexOfSpec) = true := by kernel_rfl
theorem Zl1 : laidOutB Tryz.prog = true := by kernel_rfl
theorem Zkx : mapsRowed Tryz.prog = true := by kernel_rfl
theorem Zm2 : Tryz.f13.params.all (Tryz.prog.readableRec ·) = true := by kernel_rfl
theorem Zka : namedTie Tryz.prog Rows.fnIndexOfRow.named Rows.fnIndexOfSpec.vars = true := by kernel_rfl
theorem Zld : (Rows.fnIndexOfRow.stops == []) = true := by kernel_rfl
theorem Zlz : (Tryz.prog.stops == []) = true := by kernel_rfl
theorem Zm0 : (Rows.fnIndexOfRow.knobs == []) = true := by kernel_rfl
theorem Zn6 : (Tryz.prog.stopKnobs == []) = true := by kernel_rfl
theorem Zkv : (Rows.fnIndexOfRow.inPlace == Tryz.prog.inPlace 13) = true := by kernel_rfl
theorem Zin : (Rows.fnIndexOfRow.unfollowed == Tryz.prog.unfollowed 13) = true := by kernel_rfl
theorem Zig : (Rows.fnIndexOfRow.recurses == Tryz.prog.recurses 13) = true := by kernel_rfl
theorem Zit : (Rows.fnIndexOfRow.named == Tryz.prog.varsNamed 13) = true := by kernel_rfl
theorem Zj4 : (Rows.fnIndexOfRow.maps == (Tryz.f13.params.toList ++ Rows.fnIndexOfSpec.plain.varTypes Tryz.prog).any (Tryz.prog.mapsRec ·)) = true := by kernel_rfl
theorem Zis : (Rows.fnIndexOfRow.ifaces == (Tryz.f13.params.toList ++ Rows.fnIndexOfSpec.plain.varTypes Tryz.prog).any (Tryz.prog.ifacesRec ·)) = true := by kernel_rfl
theorem Zik : (Rows.fnIndexOfRow.mapsOut == Tryz.prog.mapsAmong Tryz.f13.resultTypes.toList) = true := by kernel_rfl
theorem Zk4 : (Rows.fnIndexOfRow.loops == (Tryz.f13.params.toList ++ Rows.fnIndexOfSpec.plain.varTypes Tryz.prog).any (Tryz.prog.loopsFrom ·)) = true := by kernel_rfl
end Go.Proofs.YtcceojmajfinpaaGreatDoor
