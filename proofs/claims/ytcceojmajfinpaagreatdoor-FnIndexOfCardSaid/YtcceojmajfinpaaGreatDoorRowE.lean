/-
  The law answers true for every input, with its row and its tied card
-/
import Derived.Test.YtcceojmajfinpaaGreatDoorRowD
namespace Go.Proofs.YtcceojmajfinpaaGreatDoor
open Go Go.ChangeShapes Go.WideShapes Go.ChangeAt Go.RowKit Go.Vm Go.Vm.T
theorem Zmo : ([41].all fun u => !Tryz.prog.wantsStandIn u) = true := by kernel_rfl
theorem Y2v : Tryz.prog.funcNamed "loop.example/custumal/laws.FnIndexOf" = some 13 := by kernel_rfl
theorem Zkb : false = Rows.fnIndexOfRow.goesBy Tryz.prog := by kernel_rfl
theorem FnIndexOf_card_holds : Rows.FnIndexOfCardSaid :=
 Claim7.holds_tied_plain_at .later [] [.data, .data, .data, .sentinel, .sentinel] true (true, "18df492114f05f048a516c273473eecfc9bd9d7f2cdc101cf80181633b1abf28") true
  Zdu (fun _ h => by cases h) Zmd (fun _ h => by cases h) fnIndexOf_row_tie rfl ⟨rfl, rfl⟩ Zmz rfl
  (fun f fn hf hfn => by
   obtain rfl : f = 13 := eM (Y2v.symm.trans hf) |>.symm
   obtain rfl : fn = Tryz.f13 := (eM (Tryz.func13.symm.trans hfn)).symm
   exact ⟨Zmh, fun j t ht => by
    rw [Tryz.params13] at ht
    have hm : t ∈ [41] := by simpa using Array.mem_of_getElem? ht
    exact (show Tryz.prog.wantsStandIn t = false by simpa using cY.1 Zmo t hm)⟩)
  Zkb
end Go.Proofs.YtcceojmajfinpaaGreatDoor
