/-
  The law answers true for every input, with its row and its tied card
-/
import Derived.Test.YtcceojmajfinpaaGreatDoorRowpD
namespace Go.Proofs.YtcceojmajfinpaaGreatDoor
open Go Go.ChangeShapes Go.WideShapes Go.ChangeAt Go.RowKit Go.Vm Go.Vm.T
theorem Zn3 : ([41].all fun u => !Tryz.prog.wantsStandIn u) = true := by kernel_rfl
theorem Y57 : Tryz.prog.funcNamed "loop.example/custumal/laws.FnAskFind" = some 4 := by kernel_rfl
theorem Znd : false = Rows.fnAskFindRow.goesBy Tryz.prog := by kernel_rfl
theorem FnAskFind_card_holds : Rows.FnAskFindCardSaid :=
 Claim7.holds_tied_plain_at .later [] [.data, .data, .data, .sentinel, .sentinel] true (true, "18df492114f05f048a516c273473eecfc9bd9d7f2cdc101cf80181633b1abf28") true
  Ze1 (fun _ h => by cases h) Zns (fun _ h => by cases h) fnAskFind_row_tie rfl ⟨rfl, rfl⟩ Zp3 rfl
  (fun f fn hf hfn => by
   obtain rfl : f = 4 := eI (Y57.symm.trans hf) |>.symm
   obtain rfl : fn = Tryz.f4 := (eI (Tryz.func4.symm.trans hfn)).symm
   exact ⟨Zow, fun j t ht => by
    rw [Tryz.params4] at ht
    have hm : t ∈ [41] := by simpa using Array.mem_of_getElem? ht
    exact (show Tryz.prog.wantsStandIn t = false by simpa using cW.1 Zn3 t hm)⟩)
  Znd
end Go.Proofs.YtcceojmajfinpaaGreatDoor
