/-
  The law answers true for every input, with its row and its tied card
-/
import Derived.Test.YtcceojmajfinpaaGreatDoorRowpB
namespace Go.Proofs.YtcceojmajfinpaaGreatDoor
open Go Go.ChangeShapes Go.WideShapes Go.ChangeAt Go.RowKit Go.Vm Go.Vm.T
theorem Zku : (Rows.fnAskFindRow.wideKeys == (Tryz.f4.params.toList ++ Rows.fnAskFindSpec.plain.varTypes Tryz.prog ++ Tryz.f4.resultTypes.toList).any (Tryz.prog.wideKeysFrom ·)) = true := by kernel_rfl
theorem Zju : Rows.fnAskFindSpec.vars.all (Tryz.prog.varReadable ·) = true := by kernel_rfl
theorem Zjs : Tryz.f4.resultTypes.all (fun t => Tryz.prog.readableRec t && decide (t < Tryz.prog.types.size)) = true := by kernel_rfl
theorem Zj3 : (Rows.fnAskFindRow.ifacesOut == Tryz.f4.resultTypes.toList.any (Tryz.prog.ifacesRec ·)) = true := by kernel_rfl
theorem Zi9 : (Rows.fnAskFindRow.loopsOut == Tryz.f4.resultTypes.toList.any (Tryz.prog.loopsFrom ·)) = true := by kernel_rfl
theorem Zl5 : (Rows.fnAskFindRow.plainKeys == Tryz.prog.plainKeys) = true := by kernel_rfl
theorem Zjm : Rows.fnAskFindRow.shortTexts.isNone = true := by kernel_rfl
theorem Zkp : Tryz.prog.stopsHeard = true := by kernel_rfl
theorem Zim : Tryz.prog.mayEnter = true := by kernel_rfl
theorem Zjy : (Rows.fnAskFindRow.lifted == Tryz.prog.liftsFinal) = true := by kernel_rfl
theorem Ziv : (Tryz.prog.make == some Rows.fnAskFindRow.make) = true := by kernel_rfl
theorem Zic : (Rows.fnAskFindRow.kinds == (if Rows.fnAskFindRow.domain.isEmpty then [] else Tryz.f4.params.toList.map fun t => match Tryz.prog.underlying t with | some (.int k) => some k | _ => none)) = true := by kernel_rfl
theorem Zkj : (Rows.fnAskFindRow.pinned == Rows.fnAskFindRow.pinnedBy) = true := by kernel_rfl
theorem Zir : (Rows.fnAskFindRow.veiled == (Tryz.f4.params.toList ++ Rows.fnAskFindSpec.plain.varTypes Tryz.prog ++ Tryz.f4.resultTypes.toList).any (Tryz.prog.veiledRec ·)) = true := by kernel_rfl
theorem Zj8 : Rows.fnAskFindRow.veiledFits Tryz.prog Tryz.f4.params.toList (Tryz.f4.params.toList ++ Rows.fnAskFindSpec.plain.varTypes Tryz.prog ++ Tryz.f4.resultTypes.toList) = true := by kernel_rfl
end Go.Proofs.YtcceojmajfinpaaGreatDoor
