/-
  The law answers true for every input, with its row and its tied card
-/
import Derived.Test.YtcceojmajfinpaaGreatDoorRowqD
namespace Go.Proofs.YtcceojmajfinpaaGreatDoor
open Go Go.ChangeShapes Go.WideShapes Go.ChangeAt Go.RowKit Go.Vm Go.Vm.T
theorem Zlz : ([41, 41].all fun u => !Tryz.prog.wantsStandIn u) = true := by kernel_rfl
theorem Y4w : Tryz.prog.funcNamed "loop.example/custumal/laws.FnAskMore" = some 5 := by kernel_rfl
theorem Zlj : false = Rows.fnAskMoreRow.goesBy Tryz.prog := by kernel_rfl
theorem FnAskMore_card_holds : Rows.FnAskMoreCardSaid :=
 Claim7.holds_tied_plain_at .later [] [.data, .data, .data, .sentinel, .sentinel] true (true, "18df492114f05f048a516c273473eecfc9bd9d7f2cdc101cf80181633b1abf28") true
  Zf9 (fun _ h => by cases h) Zn4 (fun _ h => by cases h) fnAskMore_row_tie rfl ⟨rfl, rfl⟩ Zn9 rfl
  (fun f fn hf hfn => by
   obtain rfl : f = 5 := eI (Y4w.symm.trans hf) |>.symm
   obtain rfl : fn = Tryz.f5 := (eI (Tryz.func5.symm.trans hfn)).symm
   exact ⟨Zm6, fun j t ht => by
    rw [Tryz.params5] at ht
    have hm : t ∈ [41, 41] := by simpa using Array.mem_of_getElem? ht
    exact (show Tryz.prog.wantsStandIn t = false by simpa using cW.1 Zlz t hm)⟩)
  Zlj
end Go.Proofs.YtcceojmajfinpaaGreatDoor
