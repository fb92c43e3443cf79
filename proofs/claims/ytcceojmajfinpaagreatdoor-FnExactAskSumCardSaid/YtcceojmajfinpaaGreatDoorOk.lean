/-
  The lowered code is the program's, by the kernel
-/
import Derived.Test.YtcceojmajfinpaaGreatDoorProg
import Derived.Test.YtcceojmajfinpaaGreatDoorVmD
import Derived.WalkKit
import Derived.KernelRfl
import Derived.Shelf.RegionOpenPlain
import Derived.Lib.Walk
import Derived.Lib.SliceRun
import Derived.Lib.JoinLaws
import Derived.Lib.AppendZerosOnto
import Derived.Lib.Overlaps
import Derived.Laws.Externs
import Derived.Laws.IdiomCopy
import Derived.Test.YtcceojmajfinpaaGreatDoorCode
import Derived.Test.YtcceojmajfinpaaGreatDoorLay
section
set_option linter.unusedVariables false
set_option linter.unusedSectionVars false
set_option linter.unusedSimpArgs false
namespace Go.Vm.T
open Go.RowKit Go.Lib Go.Proofs
section
variable {P : Program}
end
end Go.Vm.T
end

section
set_option linter.unusedVariables false
set_option linter.unusedSectionVars false
set_option linter.unusedSimpArgs false
/- The lowered code is the program's: reckoned by the kernel, a function at a time. Made by a program of this work. -/
set_option maxRecDepth 100000
namespace Go.Vm.T
open Go.Proofs
theorem k_laws_FnExactAskSum : okFn Tryz.prog f_laws_FnExactAskSum c_laws_FnExactAskSum = true := by kernel_rfl
theorem k_laws_szTable : okFn Tryz.prog f_laws_szTable c_laws_szTable = true := by kernel_rfl
theorem k_spec_AskSum : okFn Tryz.prog f_spec_AskSum c_spec_AskSum = true := by kernel_rfl
theorem k_laws_toTable : okFn Tryz.prog f_laws_toTable c_laws_toTable = true := by kernel_rfl
theorem k_laws_toIntS : okFn Tryz.prog f_laws_toIntS c_laws_toIntS = true := by kernel_rfl
theorem k_impl_AskSum : okFn Tryz.prog f_impl_AskSum c_impl_AskSum = true := by kernel_rfl
theorem k_laws_eqTable : okFn Tryz.prog f_laws_eqTable c_laws_eqTable = true := by kernel_rfl
theorem k_laws_eqIntS : okFn Tryz.prog f_laws_eqIntS c_laws_eqIntS = true := by kernel_rfl
theorem k_spec_TableOk : okFn Tryz.prog f_spec_TableOk c_spec_TableOk = true := by kernel_rfl
theorem k_laws_szColS : okFn Tryz.prog f_laws_szColS c_laws_szColS = true := by kernel_rfl
theorem k_laws_szChangeS : okFn Tryz.prog f_laws_szChangeS c_laws_szChangeS = true := by kernel_rfl
theorem k_laws_szRowS : okFn Tryz.prog f_laws_szRowS c_laws_szRowS = true := by kernel_rfl
theorem k_spec_l2At : okFn Tryz.prog f_spec_l2At c_spec_l2At = true := by kernel_rfl
theorem k_spec_l3Last : okFn Tryz.prog f_spec_l3Last c_spec_l3Last = true := by kernel_rfl
theorem k_spec_l7There : okFn Tryz.prog f_spec_l7There c_spec_l7There = true := by kernel_rfl
theorem k_spec_l7Val : okFn Tryz.prog f_spec_l7Val c_spec_l7Val = true := by kernel_rfl
theorem k_laws_toColS : okFn Tryz.prog f_laws_toColS c_laws_toColS = true := by kernel_rfl
theorem k_laws_toChangeS : okFn Tryz.prog f_laws_toChangeS c_laws_toChangeS = true := by kernel_rfl
theorem k_laws_toRowS : okFn Tryz.prog f_laws_toRowS c_laws_toRowS = true := by kernel_rfl
theorem k_impl_asked : okFn Tryz.prog f_impl_asked c_impl_asked = true := by kernel_rfl
theorem k_laws_eqColS : okFn Tryz.prog f_laws_eqColS c_laws_eqColS = true := by kernel_rfl
theorem k_laws_eqChangeS : okFn Tryz.prog f_laws_eqChangeS c_laws_eqChangeS = true := by kernel_rfl
theorem k_laws_eqRowS : okFn Tryz.prog f_laws_eqRowS c_laws_eqRowS = true := by kernel_rfl
theorem k_spec_l3Now : okFn Tryz.prog f_spec_l3Now c_spec_l3Now = true := by kernel_rfl
theorem k_impl_TableOk : okFn Tryz.prog f_impl_TableOk c_impl_TableOk = true := by kernel_rfl
theorem k_impl_Table_shape : okFn Tryz.prog f_impl_Table_shape c_impl_Table_shape = true := by kernel_rfl
theorem k_impl_Table_now : okFn Tryz.prog f_impl_Table_now c_impl_Table_now = true := by kernel_rfl
theorem k_impl_ShapeOk : okFn Tryz.prog f_impl_ShapeOk c_impl_ShapeOk = true := by kernel_rfl
theorem k_impl_colAt : okFn Tryz.prog f_impl_colAt c_impl_colAt = true := by kernel_rfl
theorem k_spec_ShapeAll : okFn Tryz.prog f_spec_ShapeAll c_spec_ShapeAll = true := by kernel_rfl
theorem k_spec_l3Stored : okFn Tryz.prog f_spec_l3Stored c_spec_l3Stored = true := by kernel_rfl
theorem k_spec_l3Twice : okFn Tryz.prog f_spec_l3Twice c_spec_l3Twice = true := by kernel_rfl
theorem k_spec_l3All : okFn Tryz.prog f_spec_l3All c_spec_l3All = true := by kernel_rfl
theorem k_impl_Table_rowAt : okFn Tryz.prog f_impl_Table_rowAt c_impl_Table_rowAt = true := by kernel_rfl
theorem k_laws_eqValS : okFn Tryz.prog f_laws_eqValS c_laws_eqValS = true := by kernel_rfl
theorem k_laws_szCol : okFn Tryz.prog f_laws_szCol c_laws_szCol = true := by kernel_rfl
theorem k_laws_szChange : okFn Tryz.prog f_laws_szChange c_laws_szChange = true := by kernel_rfl
theorem k_laws_szRow : okFn Tryz.prog f_laws_szRow c_laws_szRow = true := by kernel_rfl
theorem k_spec_l3Shape : okFn Tryz.prog f_spec_l3Shape c_spec_l3Shape = true := by kernel_rfl
theorem k_spec_l3At : okFn Tryz.prog f_spec_l3At c_spec_l3At = true := by kernel_rfl
theorem k_laws_toCol : okFn Tryz.prog f_laws_toCol c_laws_toCol = true := by kernel_rfl
theorem k_laws_toChange : okFn Tryz.prog f_laws_toChange c_laws_toChange = true := by kernel_rfl
theorem k_laws_toRow : okFn Tryz.prog f_laws_toRow c_laws_toRow = true := by kernel_rfl
theorem k_slices_Contains_S_int_int : okFn Tryz.prog f_slices_Contains_S_int_int c_slices_Contains_S_int_int = true := by kernel_rfl
theorem k_laws_eqCol : okFn Tryz.prog f_laws_eqCol c_laws_eqCol = true := by kernel_rfl
theorem k_laws_eqChange : okFn Tryz.prog f_laws_eqChange c_laws_eqChange = true := by kernel_rfl
theorem k_laws_eqRow : okFn Tryz.prog f_laws_eqRow c_laws_eqRow = true := by kernel_rfl
theorem k_spec_RowAll : okFn Tryz.prog f_spec_RowAll c_spec_RowAll = true := by kernel_rfl
theorem k_impl_ShapeAll : okFn Tryz.prog f_impl_ShapeAll c_impl_ShapeAll = true := by kernel_rfl
theorem k_impl_in : okFn Tryz.prog f_impl_in c_impl_in = true := by kernel_rfl
theorem k_impl_changes : okFn Tryz.prog f_impl_changes c_impl_changes = true := by kernel_rfl
theorem k_impl_rowOk : okFn Tryz.prog f_impl_rowOk c_impl_rowOk = true := by kernel_rfl
theorem k_impl_ValOk : okFn Tryz.prog f_impl_ValOk c_impl_ValOk = true := by kernel_rfl
theorem k_impl_changeRows : okFn Tryz.prog f_impl_changeRows c_impl_changeRows = true := by kernel_rfl
theorem k_impl_ColOk : okFn Tryz.prog f_impl_ColOk c_impl_ColOk = true := by kernel_rfl
theorem k_slices_IndexFunc_S_impl_Col_impl_Col : okFn Tryz.prog f_slices_IndexFunc_S_impl_Col_impl_Col c_slices_IndexFunc_S_impl_Col_impl_Col = true := by kernel_rfl
theorem k_impl_colAt_1 : okFn Tryz.prog f_impl_colAt_1 c_impl_colAt_1 = true := by kernel_rfl
theorem k_spec_ShapeOk : okFn Tryz.prog f_spec_ShapeOk c_spec_ShapeOk = true := by kernel_rfl
theorem k_spec_ShapeDo : okFn Tryz.prog f_spec_ShapeDo c_spec_ShapeDo = true := by kernel_rfl
theorem k_spec_RowOk : okFn Tryz.prog f_spec_RowOk c_spec_RowOk = true := by kernel_rfl
theorem k_slices_IndexFunc_S_impl_Row_impl_Row : okFn Tryz.prog f_slices_IndexFunc_S_impl_Row_impl_Row c_slices_IndexFunc_S_impl_Row_impl_Row = true := by kernel_rfl
theorem k_impl_Table_rowAt_1 : okFn Tryz.prog f_impl_Table_rowAt_1 c_impl_Table_rowAt_1 = true := by kernel_rfl
theorem k_laws_szVal : okFn Tryz.prog f_laws_szVal c_laws_szVal = true := by kernel_rfl
theorem k_laws_toVal : okFn Tryz.prog f_laws_toVal c_laws_toVal = true := by kernel_rfl
theorem k_laws_eqVal : okFn Tryz.prog f_laws_eqVal c_laws_eqVal = true := by kernel_rfl
theorem k_laws_szValS : okFn Tryz.prog f_laws_szValS c_laws_szValS = true := by kernel_rfl
theorem k_laws_toValS : okFn Tryz.prog f_laws_toValS c_laws_toValS = true := by kernel_rfl
theorem k_slices_Index_S_int_int : okFn Tryz.prog f_slices_Index_S_int_int c_slices_Index_S_int_int = true := by kernel_rfl
theorem k_spec_l2Row : okFn Tryz.prog f_spec_l2Row c_spec_l2Row = true := by kernel_rfl
theorem k_impl_clone_impl_Col : okFn Tryz.prog f_impl_clone_impl_Col c_impl_clone_impl_Col = true := by kernel_rfl
theorem k_impl_change : okFn Tryz.prog f_impl_change c_impl_change = true := by kernel_rfl
theorem k_impl_Val_fits : okFn Tryz.prog f_impl_Val_fits c_impl_Val_fits = true := by kernel_rfl
theorem k_impl_clone_impl_Val : okFn Tryz.prog f_impl_clone_impl_Val c_impl_clone_impl_Val = true := by kernel_rfl
theorem k_impl_changeRow : okFn Tryz.prog f_impl_changeRow c_impl_changeRow = true := by kernel_rfl
theorem k_spec_ValOk : okFn Tryz.prog f_spec_ValOk c_spec_ValOk = true := by kernel_rfl
theorem k_impl_isName : okFn Tryz.prog f_impl_isName c_impl_isName = true := by kernel_rfl
theorem k_spec_ColOk : okFn Tryz.prog f_spec_ColOk c_spec_ColOk = true := by kernel_rfl
theorem k_spec_l2Do : okFn Tryz.prog f_spec_l2Do c_spec_l2Do = true := by kernel_rfl
theorem k_spec_ValAs : okFn Tryz.prog f_spec_ValAs c_spec_ValAs = true := by kernel_rfl
theorem k_slices_Clip_S_impl_Col_impl_Col : okFn Tryz.prog f_slices_Clip_S_impl_Col_impl_Col c_slices_Clip_S_impl_Col_impl_Col = true := by kernel_rfl
theorem k_impl_Change_named : okFn Tryz.prog f_impl_Change_named c_impl_Change_named = true := by kernel_rfl
theorem k_slices_Delete_S_impl_Col_impl_Col : okFn Tryz.prog f_slices_Delete_S_impl_Col_impl_Col c_slices_Delete_S_impl_Col_impl_Col = true := by kernel_rfl
theorem k_impl_ValAs : okFn Tryz.prog f_impl_ValAs c_impl_ValAs = true := by kernel_rfl
theorem k_slices_Clip_S_impl_Val_impl_Val : okFn Tryz.prog f_slices_Clip_S_impl_Val_impl_Val c_slices_Clip_S_impl_Val_impl_Val = true := by kernel_rfl
theorem k_slices_Delete_S_impl_Val_impl_Val : okFn Tryz.prog f_slices_Delete_S_impl_Val_impl_Val c_slices_Delete_S_impl_Val_impl_Val = true := by kernel_rfl
theorem k_spec_l1Num : okFn Tryz.prog f_spec_l1Num c_spec_l1Num = true := by kernel_rfl
theorem k_spec_l1Text : okFn Tryz.prog f_spec_l1Text c_spec_l1Text = true := by kernel_rfl
theorem k_spec_l2Name : okFn Tryz.prog f_spec_l2Name c_spec_l2Name = true := by kernel_rfl
theorem k_spec_l2Rest : okFn Tryz.prog f_spec_l2Rest c_spec_l2Rest = true := by kernel_rfl
theorem k_spec_l2Cut : okFn Tryz.prog f_spec_l2Cut c_spec_l2Cut = true := by kernel_rfl
theorem k_spec_l10Num : okFn Tryz.prog f_spec_l10Num c_spec_l10Num = true := by kernel_rfl
theorem k_spec_l10Dec : okFn Tryz.prog f_spec_l10Dec c_spec_l10Dec = true := by kernel_rfl
theorem fns_ok : ∀ x ∈ fns, okFn Tryz.prog x.1 x.2 = true :=
  List.forall_mem_cons.2 ⟨k_laws_FnExactAskSum, List.forall_mem_cons.2 ⟨k_laws_szTable, List.forall_mem_cons.2 ⟨k_spec_AskSum, List.forall_mem_cons.2 ⟨k_laws_toTable, List.forall_mem_cons.2 ⟨k_laws_toIntS, List.forall_mem_cons.2 ⟨k_impl_AskSum, List.forall_mem_cons.2 ⟨k_laws_eqTable, List.forall_mem_cons.2 ⟨k_laws_eqIntS, List.forall_mem_cons.2 ⟨k_spec_TableOk, List.forall_mem_cons.2 ⟨k_laws_szColS, List.forall_mem_cons.2 ⟨k_laws_szChangeS, List.forall_mem_cons.2 ⟨k_laws_szRowS, List.forall_mem_cons.2 ⟨k_spec_l2At, List.forall_mem_cons.2 ⟨k_spec_l3Last, List.forall_mem_cons.2 ⟨k_spec_l7There, List.forall_mem_cons.2 ⟨k_spec_l7Val, List.forall_mem_cons.2 ⟨k_laws_toColS, List.forall_mem_cons.2 ⟨k_laws_toChangeS, List.forall_mem_cons.2 ⟨k_laws_toRowS, List.forall_mem_cons.2 ⟨k_impl_asked, List.forall_mem_cons.2 ⟨k_laws_eqColS, List.forall_mem_cons.2 ⟨k_laws_eqChangeS, List.forall_mem_cons.2 ⟨k_laws_eqRowS, List.forall_mem_cons.2 ⟨k_spec_l3Now, List.forall_mem_cons.2 ⟨k_impl_TableOk, List.forall_mem_cons.2 ⟨k_impl_Table_shape, List.forall_mem_cons.2 ⟨k_impl_Table_now, List.forall_mem_cons.2 ⟨k_impl_ShapeOk, List.forall_mem_cons.2 ⟨k_impl_colAt, List.forall_mem_cons.2 ⟨k_spec_ShapeAll, List.forall_mem_cons.2 ⟨k_spec_l3Stored, List.forall_mem_cons.2 ⟨k_spec_l3Twice, List.forall_mem_cons.2 ⟨k_spec_l3All, List.forall_mem_cons.2 ⟨k_impl_Table_rowAt, List.forall_mem_cons.2 ⟨k_laws_eqValS, List.forall_mem_cons.2 ⟨k_laws_szCol, List.forall_mem_cons.2 ⟨k_laws_szChange, List.forall_mem_cons.2 ⟨k_laws_szRow, List.forall_mem_cons.2 ⟨k_spec_l3Shape, List.forall_mem_cons.2 ⟨k_spec_l3At, List.forall_mem_cons.2 ⟨k_laws_toCol, List.forall_mem_cons.2 ⟨k_laws_toChange, List.forall_mem_cons.2 ⟨k_laws_toRow, List.forall_mem_cons.2 ⟨k_slices_Contains_S_int_int, List.forall_mem_cons.2 ⟨k_laws_eqCol, List.forall_mem_cons.2 ⟨k_laws_eqChange, List.forall_mem_cons.2 ⟨k_laws_eqRow, List.forall_mem_cons.2 ⟨k_spec_RowAll, List.forall_mem_cons.2 ⟨k_impl_ShapeAll, List.forall_mem_cons.2 ⟨k_impl_in, List.forall_mem_cons.2 ⟨k_impl_changes, List.forall_mem_cons.2 ⟨k_impl_rowOk, List.forall_mem_cons.2 ⟨k_impl_ValOk, List.forall_mem_cons.2 ⟨k_impl_changeRows, List.forall_mem_cons.2 ⟨k_impl_ColOk, List.forall_mem_cons.2 ⟨k_slices_IndexFunc_S_impl_Col_impl_Col, List.forall_mem_cons.2 ⟨k_impl_colAt_1, List.forall_mem_cons.2 ⟨k_spec_ShapeOk, List.forall_mem_cons.2 ⟨k_spec_ShapeDo, List.forall_mem_cons.2 ⟨k_spec_RowOk, List.forall_mem_cons.2 ⟨k_slices_IndexFunc_S_impl_Row_impl_Row, List.forall_mem_cons.2 ⟨k_impl_Table_rowAt_1, List.forall_mem_cons.2 ⟨k_laws_szVal, List.forall_mem_cons.2 ⟨k_laws_toVal, List.forall_mem_cons.2 ⟨k_laws_eqVal, List.forall_mem_cons.2 ⟨k_laws_szValS, List.forall_mem_cons.2 ⟨k_laws_toValS, List.forall_mem_cons.2 ⟨k_slices_Index_S_int_int, List.forall_mem_cons.2 ⟨k_spec_l2Row, List.forall_mem_cons.2 ⟨k_impl_clone_impl_Col, List.forall_mem_cons.2 ⟨k_impl_change, List.forall_mem_cons.2 ⟨k_impl_Val_fits, List.forall_mem_cons.2 ⟨k_impl_clone_impl_Val, List.forall_mem_cons.2 ⟨k_impl_changeRow, List.forall_mem_cons.2 ⟨k_spec_ValOk, List.forall_mem_cons.2 ⟨k_impl_isName, List.forall_mem_cons.2 ⟨k_spec_ColOk, List.forall_mem_cons.2 ⟨k_spec_l2Do, List.forall_mem_cons.2 ⟨k_spec_ValAs, List.forall_mem_cons.2 ⟨k_slices_Clip_S_impl_Col_impl_Col, List.forall_mem_cons.2 ⟨k_impl_Change_named, List.forall_mem_cons.2 ⟨k_slices_Delete_S_impl_Col_impl_Col, List.forall_mem_cons.2 ⟨k_impl_ValAs, List.forall_mem_cons.2 ⟨k_slices_Clip_S_impl_Val_impl_Val, List.forall_mem_cons.2 ⟨k_slices_Delete_S_impl_Val_impl_Val, List.forall_mem_cons.2 ⟨k_spec_l1Num, List.forall_mem_cons.2 ⟨k_spec_l1Text, List.forall_mem_cons.2 ⟨k_spec_l2Name, List.forall_mem_cons.2 ⟨k_spec_l2Rest, List.forall_mem_cons.2 ⟨k_spec_l2Cut, List.forall_mem_cons.2 ⟨k_spec_l10Num, List.forall_mem_cons.2 ⟨k_spec_l10Dec, fun x h => absurd h List.not_mem_nil⟩⟩⟩⟩⟩⟩⟩⟩⟩⟩⟩⟩⟩⟩⟩⟩⟩⟩⟩⟩⟩⟩⟩⟩⟩⟩⟩⟩⟩⟩⟩⟩⟩⟩⟩⟩⟩⟩⟩⟩⟩⟩⟩⟩⟩⟩⟩⟩⟩⟩⟩⟩⟩⟩⟩⟩⟩⟩⟩⟩⟩⟩⟩⟩⟩⟩⟩⟩⟩⟩⟩⟩⟩⟩⟩⟩⟩⟩⟩⟩⟩⟩⟩⟩⟩⟩⟩⟩⟩⟩⟩⟩
theorem dns_ok : ∀ x ∈ dnfns, okFn Tryz.prog x.1 x.2 = true :=
  fun x h => absurd h List.not_mem_nil
theorem orders : Tryz.prog.follows .mixedOrders = true := by kernel_rfl
theorem k_slices_Clone_S_impl_Col_impl_Col : okClone Tryz.prog f_slices_Clone_S_impl_Col_impl_Col t_impl_Col = true := by kernel_rfl
theorem k_slices_Clone_S_impl_Val_impl_Val : okClone Tryz.prog f_slices_Clone_S_impl_Val_impl_Val t_impl_Val = true := by kernel_rfl
theorem exts_ok : ∀ x ∈ exts, CallsOk Tryz.prog x.2 x.1 ∧ Enter Tryz.prog x.1 :=
  List.forall_mem_cons.2 ⟨okClone_sound k_slices_Clone_S_impl_Col_impl_Col orders, List.forall_mem_cons.2 ⟨okClone_sound k_slices_Clone_S_impl_Val_impl_Val orders, List.forall_mem_cons.2 ⟨itoa_ok, List.forall_mem_cons.2 ⟨atoi_ok, fun x h => absurd h List.not_mem_nil⟩⟩⟩⟩
theorem inss_ok : ∀ x ∈ inss, DcOk Tryz.prog (insF x.2) x.1 ∧ Enter Tryz.prog x.1 :=
  fun x h => absurd h List.not_mem_nil
theorem look_mem {α : Type} {f : Nat} : ∀ {l : List (Nat × α)} {x : α}, look f l = some x → (f, x) ∈ l
  | [], x, h => by cases h
  | y :: ys, x, h => by
    unfold look at h
    split at h
    · rename_i e; simp only [Option.some.injEq] at h; subst e; subst h; exact List.mem_cons_self
    · exact List.mem_cons_of_mem _ (look_mem h)
end Go.Vm.T
end
