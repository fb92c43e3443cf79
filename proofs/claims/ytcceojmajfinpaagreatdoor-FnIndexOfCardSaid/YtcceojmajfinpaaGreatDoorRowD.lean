/-
  The law answers true for every input, with its row and its tied card
-/
import Derived.Test.YtcceojmajfinpaaGreatDoorRowC
namespace Go.Proofs.YtcceojmajfinpaaGreatDoor
open Go Go.ChangeShapes Go.WideShapes Go.ChangeAt Go.RowKit Go.Vm Go.Vm.T
set_option maxRecDepth 100000 in
theorem Zes : joinedFacts Tryz.prog 13 Tryz.f13 Rows.fnIndexOfSpec Rows.fnIndexOfRow = true := by
 unfold joinedFacts
 exact Wh (Wh (Wh (Wh (Wh (Wh (Wh (Wh (Wh (Wh (Wh (Wh (Wh (Wh (Wh (Wh (Wh (Wh (Wh (Wh (Wh (Wh (Wh (Wh (Wh (Wh (Wh (Wh (Wh (Wh (Wh Zkz Zl1) Zkx) Zm2) Zka) Zld) Zlz) Zm0) Zn6) Zkv) Zin) Zig) Zit) Zj4) Zis) Zik) Zk4) Zib) Zk2) Zhs) Zii) Zk3) Zjk) Zi2) Ziw) Zi0) Zjh) Zjy) Zht) Zih) Zi4) Zj9
theorem Zdu : Rows.FnIndexOfSaid :=
 OpenClaim.holds_of_wide 13 Tryz.f13 rfl rfl rfl rfl rfl rfl rfl ⟨rfl, rfl, rfl, rfl, rfl⟩ rfl rfl rfl rfl rfl (by kernel_rfl) Tryz.func13 Zes
  (of_decide_eq_true (by kernel_rfl)) (by unfold Func.isWrapper; first | (rw [if_pos (by decide +kernel)]; kernel_rfl) | (rw [if_neg (by decide +kernel)]; exact ⟨rfl, rfl⟩))
  (fun os started H enc _ => Zdd os started H enc)
theorem Zmd : Rows.fnIndexOfRow.wfByText (OpenSpec.ofChange Rows.fnIndexOfSpec) = true := by kernel_rfl
theorem Zmz : Tryz.pinned.checked.prog.mainIs = some (((true, "18df492114f05f048a516c273473eecfc9bd9d7f2cdc101cf80181633b1abf28") : Bool × String).1, ((true, "18df492114f05f048a516c273473eecfc9bd9d7f2cdc101cf80181633b1abf28") : Bool × String).2.toList) := by kernel_rfl
theorem Zmh : true = Tryz.prog.looks [] := by kernel_rfl
end Go.Proofs.YtcceojmajfinpaaGreatDoor
