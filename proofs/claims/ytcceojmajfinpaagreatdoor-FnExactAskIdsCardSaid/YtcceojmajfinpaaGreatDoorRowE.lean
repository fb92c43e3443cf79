/-
  The law answers true for every input, with its row and its tied card
-/
import Derived.Test.YtcceojmajfinpaaGreatDoorRowD
section
set_option linter.unusedVariables false
set_option linter.unusedSectionVars false
set_option linter.unusedSimpArgs false
namespace Go.Proofs.YtcceojmajfinpaaGreatDoor
open Go Go.ChangeShapes Go.WideShapes Go.ChangeAt Go.RowKit Go.Vm Go.Vm.T
theorem FnExactAskIds_c4 : ([26, 73].all fun u => !Tryz.prog.wantsStandIn u) = true := by kernel_rfl
theorem FnExactAskIds_c5 : Tryz.prog.funcNamed "loop.example/custumal/laws.FnExactAskIds" = some 8 := by kernel_rfl
theorem FnExactAskIds_c6 : false = Rows.fnExactAskIdsRow.goesBy Tryz.prog := by kernel_rfl
theorem FnExactAskIds_card_holds : Rows.FnExactAskIdsCardSaid :=
  Claim7.holds_tied_plain_at .later [] [.data, .data, .data, .sentinel, .sentinel] true (true, "18df492114f05f048a516c273473eecfc9bd9d7f2cdc101cf80181633b1abf28") true
    FnExactAskIds_holds (fun _ h => by cases h) FnExactAskIds_c1 (fun _ h => by cases h) fnExactAskIds_row_tie rfl ⟨rfl, rfl⟩ FnExactAskIds_c2 rfl
    (fun f fn hf hfn => by
      obtain rfl : f = 8 := Option.some.inj (FnExactAskIds_c5.symm.trans hf) |>.symm
      obtain rfl : fn = Tryz.f8 := (Option.some.inj (Tryz.func8.symm.trans hfn)).symm
      exact ⟨FnExactAskIds_c3, fun j t ht => by
        rw [Tryz.params8] at ht
        have hm : t ∈ [26, 73] := by simpa using Array.mem_of_getElem? ht
        exact (show Tryz.prog.wantsStandIn t = false by simpa using List.all_eq_true.1 FnExactAskIds_c4 t hm)⟩)
    FnExactAskIds_c6
end Go.Proofs.YtcceojmajfinpaaGreatDoor
end
