/-
  What is asked by conditions, of both
-/
import Derived.Test.YtcceojmajfinpaaGreatDoorFnsJ
section
set_option linter.unusedVariables false
set_option linter.unusedSectionVars false
set_option linter.unusedSimpArgs false
namespace Go.Vm.T
open Go.Proofs
variable [Pr2]
end Go.Vm.T
namespace Go.Vm.T
open Go.Proofs
variable [Pr2]
end Go.Vm.T
namespace Go.Vm.T
open Go.Proofs
variable [Pr2]
end Go.Vm.T
namespace Go.Vm.T
open Go.Proofs
variable [Pr2]
end Go.Vm.T
namespace Go.Vm.T
open Go.Proofs
variable [Pr2]
end Go.Vm.T
namespace Go.Vm.T
open Go.Proofs
variable [Pr2]
def g18 : List G := [.g 15 false (.mv 18 (.t 1)), .g 15 false (.call (some 19) 1 0 Zcx [(.t 17), (.t 18)]), .g 15 false (.un 20 .not (.t 19)), .o (.pick 21 (.t 15) (.k (.v (.bool true))) (.t 20))]
end Go.Vm.T
end
