/-
  The law answers true for every input, with its row and its tied card
-/
import Derived.Test.YtcceojmajfinpaaGreatDoorRowpC
namespace Go.Proofs.YtcceojmajfinpaaGreatDoor
open Go Go.ChangeShapes Go.WideShapes Go.ChangeAt Go.RowKit Go.Vm Go.Vm.T
set_option maxRecDepth 100000 in
theorem Zdy : joinedFacts Tryz.prog 4 Tryz.f4 Rows.fnAskFindSpec Rows.fnAskFindRow = true := by
 unfold joinedFacts
 exact Zi (Zi (Zi (Zi (Zi (Zi (Zi (Zi (Zi (Zi (Zi (Zi (Zi (Zi (Zi (Zi (Zi (Zi (Zi (Zi (Zi (Zi (Zi (Zi (Zi (Zi (Zi (Zi (Zi (Zi (Zi Zlb Zmr) Zm3) Znr) Zm4) Zm5) Zlm) Zn0) Zm1) Zor) Zit) Zkn) Zi2) Zjj) Zip) Zkk) Zjq) Zku) Zju) Zjs) Zj3) Zi9) Zl5) Zjm) Zkp) Zim) Zjy) Ziv) Zic) Zkj) Zir) Zj8
theorem Ze1 : Rows.FnAskFindSaid :=
 OpenClaim.holds_of_wide 4 Tryz.f4 rfl rfl rfl rfl rfl rfl rfl ⟨rfl, rfl, rfl, rfl, rfl⟩ rfl rfl rfl rfl rfl (by kernel_rfl) Tryz.func4 Zdy
  (of_decide_eq_true (by kernel_rfl)) (by unfold Func.isWrapper; first | (rw [if_pos (by decide +kernel)]; kernel_rfl) | (rw [if_neg (by decide +kernel)]; exact ⟨rfl, rfl⟩))
  (fun os started H enc _ => Zdh os started H enc)
theorem Zns : Rows.fnAskFindRow.wfByText (OpenSpec.ofChange Rows.fnAskFindSpec) = true := by kernel_rfl
theorem Zp3 : Tryz.pinned.checked.prog.mainIs = some (((true, "18df492114f05f048a516c273473eecfc9bd9d7f2cdc101cf80181633b1abf28") : Bool × String).1, ((true, "18df492114f05f048a516c273473eecfc9bd9d7f2cdc101cf80181633b1abf28") : Bool × String).2.toList) := by kernel_rfl
theorem Zow : true = Tryz.prog.looks [] := by kernel_rfl
end Go.Proofs.YtcceojmajfinpaaGreatDoor
