/-
  The law answers true for every input, with its row and its tied card
-/
import Derived.Test.YtcceojmajfinpaaGreatDoorRowvB
namespace Go.Proofs.YtcceojmajfinpaaGreatDoor
open Go Go.ChangeShapes Go.WideShapes Go.ChangeAt Go.RowKit Go.Vm Go.Vm.T
theorem Zo4 : (Rows.fnAskIdsRow.wideKeys == (Tryz.f7.params.toList ++ Rows.fnAskIdsSpec.plain.varTypes Tryz.prog ++ Tryz.f7.resultTypes.toList).any (Tryz.prog.wideKeysFrom ·)) = true := by kernel_rfl
theorem Zmz : Rows.fnAskIdsSpec.vars.all (Tryz.prog.varReadable ·) = true := by kernel_rfl
theorem Zp1 : Tryz.f7.resultTypes.all (fun t => Tryz.prog.readableRec t && decide (t < Tryz.prog.types.size)) = true := by kernel_rfl
theorem Zo6 : (Rows.fnAskIdsRow.ifacesOut == Tryz.f7.resultTypes.toList.any (Tryz.prog.ifacesRec ·)) = true := by kernel_rfl
theorem Zo7 : (Rows.fnAskIdsRow.loopsOut == Tryz.f7.resultTypes.toList.any (Tryz.prog.loopsFrom ·)) = true := by kernel_rfl
theorem Zno : (Rows.fnAskIdsRow.plainKeys == Tryz.prog.plainKeys) = true := by kernel_rfl
theorem Zot : Rows.fnAskIdsRow.shortTexts.isNone = true := by kernel_rfl
theorem Zoa : Tryz.prog.stopsHeard = true := by kernel_rfl
theorem Zos : Tryz.prog.mayEnter = true := by kernel_rfl
theorem Zog : (Rows.fnAskIdsRow.lifted == Tryz.prog.liftsFinal) = true := by kernel_rfl
theorem Zob : (Tryz.prog.make == some Rows.fnAskIdsRow.make) = true := by kernel_rfl
theorem Zox : (Rows.fnAskIdsRow.kinds == (if Rows.fnAskIdsRow.domain.isEmpty then [] else Tryz.f7.params.toList.map fun t => match Tryz.prog.underlying t with | some (.int k) => some k | _ => none)) = true := by kernel_rfl
theorem Zmq : (Rows.fnAskIdsRow.pinned == Rows.fnAskIdsRow.pinnedBy) = true := by kernel_rfl
theorem Znj : (Rows.fnAskIdsRow.veiled == (Tryz.f7.params.toList ++ Rows.fnAskIdsSpec.plain.varTypes Tryz.prog ++ Tryz.f7.resultTypes.toList).any (Tryz.prog.veiledRec ·)) = true := by kernel_rfl
theorem Zn1 : Rows.fnAskIdsRow.veiledFits Tryz.prog Tryz.f7.params.toList (Tryz.f7.params.toList ++ Rows.fnAskIdsSpec.plain.varTypes Tryz.prog ++ Tryz.f7.resultTypes.toList) = true := by kernel_rfl
end Go.Proofs.YtcceojmajfinpaaGreatDoor
