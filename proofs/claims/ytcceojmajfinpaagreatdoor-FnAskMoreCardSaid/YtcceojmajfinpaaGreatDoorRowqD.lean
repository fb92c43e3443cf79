/-
  The law answers true for every input, with its row and its tied card
-/
import Derived.Test.YtcceojmajfinpaaGreatDoorRowqC
namespace Go.Proofs.YtcceojmajfinpaaGreatDoor
open Go Go.ChangeShapes Go.WideShapes Go.ChangeAt Go.RowKit Go.Vm Go.Vm.T
set_option maxRecDepth 100000 in
theorem Ze3 : joinedFacts Tryz.prog 5 Tryz.f5 Rows.fnAskMoreSpec Rows.fnAskMoreRow = true := by
 unfold joinedFacts
 exact Zi (Zi (Zi (Zi (Zi (Zi (Zi (Zi (Zi (Zi (Zi (Zi (Zi (Zi (Zi (Zi (Zi (Zi (Zi (Zi (Zi (Zi (Zi (Zi (Zi (Zi (Zi (Zi (Zi (Zi (Zi Zne Znk) Zlg) Zoj) Zny) Zmp) Zm0) Zly) Zlu) Zmx) Zil) Zif) Zi3) Zj6) Ziq) Zj7) Zjw) Zk6) Zl3) Zix) Zjc) Zj1) Zkb) Zk4) Zj4) Zia) Zje) Zkx) Zkm) Zk3) Zj0) Zjb
theorem Zf9 : Rows.FnAskMoreSaid :=
 OpenClaim.holds_of_wide 5 Tryz.f5 rfl rfl rfl rfl rfl rfl rfl ⟨rfl, rfl, rfl, rfl, rfl⟩ rfl rfl rfl rfl rfl (by kernel_rfl) Tryz.func5 Ze3
  (of_decide_eq_true (by kernel_rfl)) (by unfold Func.isWrapper; first | (rw [if_pos (by decide +kernel)]; kernel_rfl) | (rw [if_neg (by decide +kernel)]; exact ⟨rfl, rfl⟩))
  (fun os started H enc _ => Zdk os started H enc)
theorem Zn4 : Rows.fnAskMoreRow.wfByText (OpenSpec.ofChange Rows.fnAskMoreSpec) = true := by kernel_rfl
theorem Zn9 : Tryz.pinned.checked.prog.mainIs = some (((true, "18df492114f05f048a516c273473eecfc9bd9d7f2cdc101cf80181633b1abf28") : Bool × String).1, ((true, "18df492114f05f048a516c273473eecfc9bd9d7f2cdc101cf80181633b1abf28") : Bool × String).2.toList) := by kernel_rfl
theorem Zm6 : true = Tryz.prog.looks [] := by kernel_rfl
end Go.Proofs.YtcceojmajfinpaaGreatDoor
