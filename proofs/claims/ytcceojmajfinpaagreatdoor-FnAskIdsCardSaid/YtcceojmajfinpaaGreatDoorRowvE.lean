/-
  The law answers true for every input, with its row and its tied card
-/
import Derived.Test.YtcceojmajfinpaaGreatDoorRowvD
namespace Go.Proofs.YtcceojmajfinpaaGreatDoor
open Go Go.ChangeShapes Go.WideShapes Go.ChangeAt Go.RowKit Go.Vm Go.Vm.T
theorem Zpi : ([41].all fun u => !Tryz.prog.wantsStandIn u) = true := by kernel_rfl
theorem Y8q : Tryz.prog.funcNamed "loop.example/custumal/laws.FnAskIds" = some 7 := by kernel_rfl
theorem Zpu : false = Rows.fnAskIdsRow.goesBy Tryz.prog := by kernel_rfl
theorem FnAskIds_card_holds : Rows.FnAskIdsCardSaid :=
 Claim7.holds_tied_plain_at .later [] [.data, .data, .data, .sentinel, .sentinel] true (true, "18df492114f05f048a516c273473eecfc9bd9d7f2cdc101cf80181633b1abf28") true
  Zgg (fun _ h => by cases h) Zpz (fun _ h => by cases h) fnAskIds_row_tie rfl ⟨rfl, rfl⟩ Zpj rfl
  (fun f fn hf hfn => by
   obtain rfl : f = 7 := eI (Y8q.symm.trans hf) |>.symm
   obtain rfl : fn = Tryz.f7 := (eI (Tryz.func7.symm.trans hfn)).symm
   exact ⟨Zr5, fun j t ht => by
    rw [Tryz.params7] at ht
    have hm : t ∈ [41] := by simpa using Array.mem_of_getElem? ht
    exact (show Tryz.prog.wantsStandIn t = false by simpa using cW.1 Zpi t hm)⟩)
  Zpu
end Go.Proofs.YtcceojmajfinpaaGreatDoor
