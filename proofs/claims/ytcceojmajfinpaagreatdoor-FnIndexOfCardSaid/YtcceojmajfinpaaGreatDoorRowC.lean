/-
  The law answers true for every input, with its row and its tied card
-/
import Derived.Test.YtcceojmajfinpaaGreatDoorRowB
namespace Go.Proofs.YtcceojmajfinpaaGreatDoor
open Go Go.ChangeShapes Go.WideShapes Go.ChangeAt Go.RowKit Go.Vm Go.Vm.T
theorem Zib : (Rows.fnIndexOfRow.wideKeys == (Tryz.f13.params.toList ++ Rows.fnIndexOfSpec.plain.varTypes Tryz.prog ++ Tryz.f13.resultTypes.toList).any (Tryz.prog.wideKeysFrom ·)) = true := by kernel_rfl
theorem Zk2 : Rows.fnIndexOfSpec.vars.all (Tryz.prog.varReadable ·) = true := by kernel_rfl
theorem Zhs : Tryz.f13.resultTypes.all (fun t => Tryz.prog.readableRec t && decide (t < Tryz.prog.types.size)) = true := by kernel_rfl
theorem Zii : (Rows.fnIndexOfRow.ifacesOut == Tryz.f13.resultTypes.toList.any (Tryz.prog.ifacesRec ·)) = true := by kernel_rfl
theorem Zk3 : (Rows.fnIndexOfRow.loopsOut == Tryz.f13.resultTypes.toList.any (Tryz.prog.loopsFrom ·)) = true := by kernel_rfl
theorem Zjk : (Rows.fnIndexOfRow.plainKeys == Tryz.prog.plainKeys) = true := by kernel_rfl
theorem Zi2 : Rows.fnIndexOfRow.shortTexts.isNone = true := by kernel_rfl
theorem Ziw : Tryz.prog.stopsHeard = true := by kernel_rfl
theorem Zi0 : Tryz.prog.mayEnter = true := by kernel_rfl
theorem Zjh : (Rows.fnIndexOfRow.lifted == Tryz.prog.liftsFinal) = true := by kernel_rfl
theorem Zjy : (Tryz.prog.make == some Rows.fnIndexOfRow.make) = true := by kernel_rfl
theorem Zht : (Rows.fnIndexOfRow.kinds == (if Rows.fnIndexOfRow.domain.isEmpty then [] else Tryz.f13.params.toList.map fun t => match Tryz.prog.underlying t with | some (.int k) => some k | _ => none)) = true := by kernel_rfl
theorem Zih : (Rows.fnIndexOfRow.pinned == Rows.fnIndexOfRow.pinnedBy) = true := by kernel_rfl
theorem Zi4 : (Rows.fnIndexOfRow.veiled == (Tryz.f13.params.toList ++ Rows.fnIndexOfSpec.plain.varTypes Tryz.prog ++ Tryz.f13.resultTypes.toList).any (Tryz.prog.veiledRec ·)) = true := by kernel_rfl
theorem Zj9 : Rows.fnIndexOfRow.veiledFits Tryz.prog Tryz.f13.params.toList (Tryz.f13.params.toList ++ Rows.fnIndexOfSpec.plain.varTypes Tryz.prog ++ Tryz.f13.resultTypes.toList) = true := by kernel_rfl
end Go.Proofs.YtcceojmajfinpaaGreatDoor
