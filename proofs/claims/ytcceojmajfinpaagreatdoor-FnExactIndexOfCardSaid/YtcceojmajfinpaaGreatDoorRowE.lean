/-
  The law answers true for every input, with its row and its tied card
-/
import Derived.Test.YtcceojmajfinpaaGreatDoorRowD
section
set_option linter.unusedVariables false
set_option linter.unusedSectionVars false
set_option linter.unusedSimpArgs false
namespace Go.Proofs.YtcceojmajfinpaaGreatDoor
open Go Go.ChangeShapes Go.WideShapes Go.ChangeAt Go.RowKit Go.Vm Go.Vm.T
theorem Z97 : ([26, 9].all fun u => !Tryz.prog.wantsStandIn u) = true := by kernel_rfl
theorem FnExactIndexOf_c5 : Tryz.prog.funcNamed "loop.example/custumal/laws.FnExactIndexOf" = some 12 := by kernel_rfl
theorem Z9z : false = Rows.fnExactIndexOfRow.goesBy Tryz.prog := by kernel_rfl
theorem FnExactIndexOf_card_holds : Rows.FnExactIndexOfCardSaid :=
 Claim7.holds_tied_plain_at .later [] [.data, .data, .data, .sentinel, .sentinel] true (true, "18df492114f05f048a516c273473eecfc9bd9d7f2cdc101cf80181633b1abf28") true
  Z6j (fun _ h => by cases h) Z91 (fun _ h => by cases h) fnExactIndexOf_row_tie rfl ⟨rfl, rfl⟩ Z92 rfl
  (fun f fn hf hfn => by
   obtain rfl : f = 12 := Option.some.inj (FnExactIndexOf_c5.symm.trans hf) |>.symm
   obtain rfl : fn = Tryz.f12 := (Option.some.inj (Tryz.func12.symm.trans hfn)).symm
   exact ⟨Z9i, fun j t ht => by
    rw [Tryz.params12] at ht
    have hm : t ∈ [26, 9] := by simpa using Array.mem_of_getElem? ht
    exact (show Tryz.prog.wantsStandIn t = false by simpa using List.all_eq_true.1 Z97 t hm)⟩)
  Z9z
end Go.Proofs.YtcceojmajfinpaaGreatDoor
end
