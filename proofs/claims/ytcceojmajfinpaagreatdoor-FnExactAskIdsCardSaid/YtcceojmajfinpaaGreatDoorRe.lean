/-
  Readers of conditions
-/
import Derived.Test.YtcceojmajfinpaaGreatDoorRd
import Derived.Test.YtcceojmajfinpaaGreatDoorFnsL
section
set_option linter.unusedVariables false
set_option linter.unusedSectionVars false
set_option linter.unusedSimpArgs false
/- Readers of conditions. -/
namespace Go.Vm
namespace T
open Go.Proofs
abbrev okCond (c : CondV) : Prop := c.nm.size ≤ maxLen ∧ okVal c.v
theorem condStruct : Tryz.prog.underlying t_laws_Cond = some (.struct #[fldOf Tryz.prog t_laws_Cond 0, fldOf Tryz.prog t_laws_Cond 1, fldOf Tryz.prog t_laws_Cond 2]) := by kernel_rfl
theorem rCond : Rdr Tryz.prog t_laws_Cond CondV.c okCond :=
  .iso (.struct condStruct
    (.cons' (m := 1) (by kernel_rfl) (by kernel_rfl) (by kernel_rfl) rStr (.cons' (m := 2) (by kernel_rfl) (by kernel_rfl) (by kernel_rfl) rInt (.cons' (m := 5) (by kernel_rfl) (by kernel_rfl) (by kernel_rfl) rVal .nil)))
    (fun y => by kernel_rfl)) (fun x => (⟨x.1, x.2.1, x.2.2.1⟩ : CondV)) (fun x => rfl) (fun x h => ⟨h.1, h.2.2.1⟩) (fun y => by kernel_rfl) (fun y => rfl)
theorem condSlice : Tryz.prog.underlying t_S_laws_Cond = some (.slice t_laws_Cond) := by kernel_rfl
theorem slD : Tryz.prog.cellsOf t_S_laws_Cond = 1 := by kernel_rfl
theorem condPos : 0 < Tryz.prog.cellsOf t_laws_Cond := by decide +kernel
theorem fitD_of {xs : List CondV} (h : xs.length ≤ maxLen ∧ ∀ x ∈ xs, okCond x) : FitD xs := ⟨h.1, fun c hc => ⟨(h.2 c hc).1, (h.2 c hc).2.2.2⟩⟩
end T
end Go.Vm
end
