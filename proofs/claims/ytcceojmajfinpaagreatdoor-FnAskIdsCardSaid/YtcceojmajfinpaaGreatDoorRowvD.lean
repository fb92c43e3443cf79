/-
  The law answers true for every input, with its row and its tied card
-/
import Derived.Test.YtcceojmajfinpaaGreatDoorRowvC
namespace Go.Proofs.YtcceojmajfinpaaGreatDoor
open Go Go.ChangeShapes Go.WideShapes Go.ChangeAt Go.RowKit Go.Vm Go.Vm.T
set_option maxRecDepth 100000 in
theorem Zg8 : joinedFacts Tryz.prog 7 Tryz.f7 Rows.fnAskIdsSpec Rows.fnAskIdsRow = true := by
 unfold joinedFacts
 exact Zi (Zi (Zi (Zi (Zi (Zi (Zi (Zi (Zi (Zi (Zi (Zi (Zi (Zi (Zi (Zi (Zi (Zi (Zi (Zi (Zi (Zi (Zi (Zi (Zi (Zi (Zi (Zi (Zi (Zi (Zi Zr4 Zqo) Zqj) Zqe) Zpl) Zqg) Zph) Zq4) Zpo) Zpn) Zn8) Zoc) Zmt) Zmu) Zn5) Zni) Zoe) Zo4) Zmz) Zp1) Zo6) Zo7) Zno) Zot) Zoa) Zos) Zog) Zob) Zox) Zmq) Znj) Zn1
theorem Zgg : Rows.FnAskIdsSaid :=
 OpenClaim.holds_of_wide 7 Tryz.f7 rfl rfl rfl rfl rfl rfl rfl ⟨rfl, rfl, rfl, rfl, rfl⟩ rfl rfl rfl rfl rfl (by kernel_rfl) Tryz.func7 Zg8
  (of_decide_eq_true (by kernel_rfl)) (by unfold Func.isWrapper; first | (rw [if_pos (by decide +kernel)]; kernel_rfl) | (rw [if_neg (by decide +kernel)]; exact ⟨rfl, rfl⟩))
  (fun os started H enc _ => Zf0 os started H enc)
theorem Zpz : Rows.fnAskIdsRow.wfByText (OpenSpec.ofChange Rows.fnAskIdsSpec) = true := by kernel_rfl
theorem Zpj : Tryz.pinned.checked.prog.mainIs = some (((true, "18df492114f05f048a516c273473eecfc9bd9d7f2cdc101cf80181633b1abf28") : Bool × String).1, ((true, "18df492114f05f048a516c273473eecfc9bd9d7f2cdc101cf80181633b1abf28") : Bool × String).2.toList) := by kernel_rfl
theorem Zr5 : true = Tryz.prog.looks [] := by kernel_rfl
end Go.Proofs.YtcceojmajfinpaaGreatDoor
