/-
  Readers of columns and conditions
-/
import Derived.Test.YtcpogioihmbbjaaRd
import Derived.Test.YtcpogioihmbbjaaFnsD
section
set_option linter.unusedVariables false
set_option linter.unusedSimpArgs false
namespace Go.Vm.T
open Go.Proofs
theorem rBool : Rdr Try.prog t_bool (fun b : Bool => [.q b]) (fun _ => True) := .bool (by kernel_rfl) (by kernel_rfl)
abbrev okCol (c : ColV) : Prop := c.nm.size ≤ maxLen ∧ okVal c.df
theorem colStruct : Try.prog.underlying t_laws_Col = some (.struct #[fldOf Try.prog t_laws_Col 0, fldOf Try.prog t_laws_Col 1, fldOf Try.prog t_laws_Col 2, fldOf Try.prog t_laws_Col 3, fldOf Try.prog t_laws_Col 4]) := by kernel_rfl
theorem rCol : Rdr Try.prog t_laws_Col ColV.c okCol :=
  .iso (.struct colStruct
    (.cons' (m := 1) (by kernel_rfl) (by kernel_rfl) (by kernel_rfl) rStr (.cons' (m := 2) (by kernel_rfl) (by kernel_rfl) (by kernel_rfl) rInt (.cons' (m := 3) (by kernel_rfl) (by kernel_rfl) (by kernel_rfl) rBool (.cons' (m := 4) (by kernel_rfl) (by kernel_rfl) (by kernel_rfl) rBool (.cons' (m := 7) (by kernel_rfl) (by kernel_rfl) (by kernel_rfl) rVal .nil)))))
    (fun y => by kernel_rfl)) (fun x => (⟨x.1, x.2.1, x.2.2.1, x.2.2.2.1, x.2.2.2.2.1⟩ : ColV)) (fun x => rfl) (fun x h => ⟨h.1, h.2.2.2.2.1⟩) (fun y => by kernel_rfl) (fun y => rfl)
abbrev okCond (c : CondV) : Prop := c.nm.size ≤ maxLen ∧ okVal c.v
theorem condStruct : Try.prog.underlying t_laws_Cond = some (.struct #[fldOf Try.prog t_laws_Cond 0, fldOf Try.prog t_laws_Cond 1, fldOf Try.prog t_laws_Cond 2]) := by kernel_rfl
theorem rCond : Rdr Try.prog t_laws_Cond CondV.c okCond :=
  .iso (.struct condStruct
    (.cons' (m := 1) (by kernel_rfl) (by kernel_rfl) (by kernel_rfl) rStr (.cons' (m := 2) (by kernel_rfl) (by kernel_rfl) (by kernel_rfl) rInt (.cons' (m := 5) (by kernel_rfl) (by kernel_rfl) (by kernel_rfl) rVal .nil)))
    (fun y => by kernel_rfl)) (fun x => (⟨x.1, x.2.1, x.2.2.1⟩ : CondV)) (fun x => rfl) (fun x h => ⟨h.1, h.2.2.1⟩) (fun y => by kernel_rfl) (fun y => rfl)
theorem colSlice : Try.prog.underlying t_S_laws_Col = some (.slice t_laws_Col) := by kernel_rfl
theorem slC : Try.prog.cellsOf t_S_laws_Col = 1 := by kernel_rfl
theorem colPos : 0 < Try.prog.cellsOf t_laws_Col := by decide +kernel
theorem fitC_of {xs : List ColV} (h : xs.length ≤ maxLen ∧ ∀ x ∈ xs, okCol x) : FitC xs := ⟨h.1, fun e he => ⟨(h.2 e he).1, (h.2 e he).2.2.2⟩⟩
end Go.Vm.T
end
