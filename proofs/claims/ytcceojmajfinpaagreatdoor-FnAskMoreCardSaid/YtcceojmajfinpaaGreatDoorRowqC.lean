/-
  The law answers true for every input, with its row and its tied card
-/
import Derived.Test.YtcceojmajfinpaaGreatDoorRowqB
namespace Go.Proofs.YtcceojmajfinpaaGreatDoor
open Go Go.ChangeShapes Go.WideShapes Go.ChangeAt Go.RowKit Go.Vm Go.Vm.T
theorem Zk6 : (Rows.fnAskMoreRow.wideKeys == (Tryz.f5.params.toList ++ Rows.fnAskMoreSpec.plain.varTypes Tryz.prog ++ Tryz.f5.resultTypes.toList).any (Tryz.prog.wideKeysFrom ·)) = true := by kernel_rfl
theorem Zl3 : Rows.fnAskMoreSpec.vars.all (Tryz.prog.varReadable ·) = true := by kernel_rfl
theorem Zix : Tryz.f5.resultTypes.all (fun t => Tryz.prog.readableRec t && decide (t < Tryz.prog.types.size)) = true := by kernel_rfl
theorem Zjc : (Rows.fnAskMoreRow.ifacesOut == Tryz.f5.resultTypes.toList.any (Tryz.prog.ifacesRec ·)) = true := by kernel_rfl
theorem Zj1 : (Rows.fnAskMoreRow.loopsOut == Tryz.f5.resultTypes.toList.any (Tryz.prog.loopsFrom ·)) = true := by kernel_rfl
theorem Zkb : (Rows.fnAskMoreRow.plainKeys == Tryz.prog.plainKeys) = true := by kernel_rfl
theorem Zk4 : Rows.fnAskMoreRow.shortTexts.isNone = true := by kernel_rfl
theorem Zj4 : Tryz.prog.stopsHeard = true := by kernel_rfl
theorem Zia : Tryz.prog.mayEnter = true := by kernel_rfl
theorem Zje : (Rows.fnAskMoreRow.lifted == Tryz.prog.liftsFinal) = true := by kernel_rfl
theorem Zkx : (Tryz.prog.make == some Rows.fnAskMoreRow.make) = true := by kernel_rfl
theorem Zkm : (Rows.fnAskMoreRow.kinds == (if Rows.fnAskMoreRow.domain.isEmpty then [] else Tryz.f5.params.toList.map fun t => match Tryz.prog.underlying t with | some (.int k) => some k | _ => none)) = true := by kernel_rfl
theorem Zk3 : (Rows.fnAskMoreRow.pinned == Rows.fnAskMoreRow.pinnedBy) = true := by kernel_rfl
theorem Zj0 : (Rows.fnAskMoreRow.veiled == (Tryz.f5.params.toList ++ Rows.fnAskMoreSpec.plain.varTypes Tryz.prog ++ Tryz.f5.resultTypes.toList).any (Tryz.prog.veiledRec ·)) = true := by kernel_rfl
theorem Zjb : Rows.fnAskMoreRow.veiledFits Tryz.prog Tryz.f5.params.toList (Tryz.f5.params.toList ++ Rows.fnAskMoreSpec.plain.varTypes Tryz.prog ++ Tryz.f5.resultTypes.toList) = true := by kernel_rfl
end Go.Proofs.YtcceojmajfinpaaGreatDoor
