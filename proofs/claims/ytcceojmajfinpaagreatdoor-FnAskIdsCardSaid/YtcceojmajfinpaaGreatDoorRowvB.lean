/-
  The law answers true for every input, with its row and its tied card
-/
import Derived.Test.YtcceojmajfinpaaGreatDoorRowvA
namespace Go.Proofs.YtcceojmajfinpaaGreatDoor
open Go Go.ChangeShapes Go.WideShapes Go.ChangeAt Go.RowKit Go.Vm Go.Vm.T
theorem Zr4 : Rows.fnAskIdsRow.wf (OpenSpec.ofChange Rows.fnAskIdsSpec) = true := by kernel_rfl
theorem Zqo : laidOutB Tryz.prog = true := by kernel_rfl
theorem Zqj : mapsRowed Tryz.prog = true := by kernel_rfl
theorem Zqe : Tryz.f7.params.all (Tryz.prog.readableRec ·) = true := by kernel_rfl
theorem Zpl : namedTie Tryz.prog Rows.fnAskIdsRow.named Rows.fnAskIdsSpec.vars = true := by kernel_rfl
theorem Zqg : (Rows.fnAskIdsRow.stops == []) = true := by kernel_rfl
theorem Zph : (Tryz.prog.stops == []) = true := by kernel_rfl
theorem Zq4 : (Rows.fnAskIdsRow.knobs == []) = true := by kernel_rfl
theorem Zpo : (Tryz.prog.stopKnobs == []) = true := by kernel_rfl
theorem Zpn : (Rows.fnAskIdsRow.inPlace == Tryz.prog.inPlace 7) = true := by kernel_rfl
theorem Zn8 : (Rows.fnAskIdsRow.unfollowed == Tryz.prog.unfollowed 7) = true := by kernel_rfl
theorem Zoc : (Rows.fnAskIdsRow.recurses == Tryz.prog.recurses 7) = true := by kernel_rfl
theorem Zmt : (Rows.fnAskIdsRow.named == Tryz.prog.varsNamed 7) = true := by kernel_rfl
theorem Zmu : (Rows.fnAskIdsRow.maps == (Tryz.f7.params.toList ++ Rows.fnAskIdsSpec.plain.varTypes Tryz.prog).any (Tryz.prog.mapsRec ·)) = true := by kernel_rfl
theorem Zn5 : (Rows.fnAskIdsRow.ifaces == (Tryz.f7.params.toList ++ Rows.fnAskIdsSpec.plain.varTypes Tryz.prog).any (Tryz.prog.ifacesRec ·)) = true := by kernel_rfl
theorem Zni : (Rows.fnAskIdsRow.mapsOut == Tryz.prog.mapsAmong Tryz.f7.resultTypes.toList) = true := by kernel_rfl
theorem Zoe : (Rows.fnAskIdsRow.loops == (Tryz.f7.params.toList ++ Rows.fnAskIdsSpec.plain.varTypes Tryz.prog).any (Tryz.prog.loopsFrom ·)) = true := by kernel_rfl
end Go.Proofs.YtcceojmajfinpaaGreatDoor
