/-
  The lowered code is the program's, by the kernel
-/
import Derived.Test.YtcceojmajfinpaaGreatDoorProg
import Derived.Test.YtcceojmajfinpaaGreatDoorVmD
import Derived.WalkKit
import Derived.KernelRfl
import Derived.Shelf.RegionOpenPlain
import Derived.Lib.Walk
import Derived.Lib.SliceRun
import Derived.Lib.JoinLaws
import Derived.Lib.AppendZerosOnto
import Derived.Lib.Overlaps
import Derived.Laws.Externs
import Derived.Laws.IdiomCopy
import Derived.Test.YtcceojmajfinpaaGreatDoorCode
import Derived.Test.YtcceojmajfinpaaGreatDoorLay
section
set_option linter.unusedVariables false
set_option linter.unusedSectionVars false
set_option linter.unusedSimpArgs false
namespace Go.Vm.T
open Go.RowKit Go.Lib Go.Proofs
section
variable {P : Program}
end
end Go.Vm.T

/- The lowered code is the program's: reckoned by the kernel, a function at a time. Made by a program of this work. -/
set_option maxRecDepth 100000
namespace Go.Vm.T
open Go.Proofs
theorem k_q0 : okFn Tryz.prog f_q0 c_q0 = true := by kernel_rfl
theorem k_laws_szTable : okFn Tryz.prog f_laws_szTable c_laws_szTable = true := by kernel_rfl
theorem k_laws_eqTable : okFn Tryz.prog f_laws_eqTable c_laws_eqTable = true := by kernel_rfl
theorem k_laws_eqIntS : okFn Tryz.prog f_laws_eqIntS c_laws_eqIntS = true := by kernel_rfl
theorem k_impl_AskIds : okFn Tryz.prog f_impl_AskIds c_impl_AskIds = true := by kernel_rfl
theorem k_spec_AskIds : okFn Tryz.prog f_spec_AskIds c_spec_AskIds = true := by kernel_rfl
theorem k_spec_TableOk : okFn Tryz.prog f_spec_TableOk c_spec_TableOk = true := by kernel_rfl
theorem k_laws_szCondS : okFn Tryz.prog f_laws_szCondS c_laws_szCondS = true := by kernel_rfl
theorem k_laws_toCondS : okFn Tryz.prog f_laws_toCondS c_laws_toCondS = true := by kernel_rfl
theorem k_laws_eqCondS : okFn Tryz.prog f_laws_eqCondS c_laws_eqCondS = true := by kernel_rfl
theorem k_q11 : okFn Tryz.prog f_q11 c_q11 = true := by kernel_rfl
theorem k_q12 : okFn Tryz.prog f_q12 c_q12 = true := by kernel_rfl
theorem k_q13 : okFn Tryz.prog f_q13 c_q13 = true := by kernel_rfl
theorem k_q14 : okFn Tryz.prog f_q14 c_q14 = true := by kernel_rfl
theorem k_laws_szColS : okFn Tryz.prog f_laws_szColS c_laws_szColS = true := by kernel_rfl
theorem k_q17 : okFn Tryz.prog f_q17 c_q17 = true := by kernel_rfl
theorem k_laws_szRowS : okFn Tryz.prog f_laws_szRowS c_laws_szRowS = true := by kernel_rfl
theorem k_spec_l2At : okFn Tryz.prog f_spec_l2At c_spec_l2At = true := by kernel_rfl
theorem k_spec_l3Last : okFn Tryz.prog f_spec_l3Last c_spec_l3Last = true := by kernel_rfl
theorem k_laws_toColS : okFn Tryz.prog f_laws_toColS c_laws_toColS = true := by kernel_rfl
theorem k_q23 : okFn Tryz.prog f_q23 c_q23 = true := by kernel_rfl
theorem k_laws_eqColS : okFn Tryz.prog f_laws_eqColS c_laws_eqColS = true := by kernel_rfl
theorem k_q26 : okFn Tryz.prog f_q26 c_q26 = true := by kernel_rfl
theorem k_laws_eqRowS : okFn Tryz.prog f_laws_eqRowS c_laws_eqRowS = true := by kernel_rfl
theorem k_spec_l3Now : okFn Tryz.prog f_spec_l3Now c_spec_l3Now = true := by kernel_rfl
theorem k_impl_TableOk : okFn Tryz.prog f_impl_TableOk c_impl_TableOk = true := by kernel_rfl
theorem k_q30 : okFn Tryz.prog f_q30 c_q30 = true := by kernel_rfl
theorem k_q31 : okFn Tryz.prog f_q31 c_q31 = true := by kernel_rfl
theorem k_q32 : okFn Tryz.prog f_q32 c_q32 = true := by kernel_rfl
theorem k_q33 : okFn Tryz.prog f_q33 c_q33 = true := by kernel_rfl
theorem k_q34 : okFn Tryz.prog f_q34 c_q34 = true := by kernel_rfl
theorem k_q35 : okFn Tryz.prog f_q35 c_q35 = true := by kernel_rfl
theorem k_impl_hasCond : okFn Tryz.prog f_impl_hasCond c_impl_hasCond = true := by kernel_rfl
theorem k_q37 : okFn Tryz.prog f_q37 c_q37 = true := by kernel_rfl
theorem k_spec_l7Conds : okFn Tryz.prog f_spec_l7Conds c_spec_l7Conds = true := by kernel_rfl
theorem k_spec_l7Has : okFn Tryz.prog f_spec_l7Has c_spec_l7Has = true := by kernel_rfl
theorem k_impl_ShapeOk : okFn Tryz.prog f_impl_ShapeOk c_impl_ShapeOk = true := by kernel_rfl
theorem k_impl_colAt : okFn Tryz.prog f_impl_colAt c_impl_colAt = true := by kernel_rfl
theorem k_q42 : okFn Tryz.prog f_q42 c_q42 = true := by kernel_rfl
theorem k_q43 : okFn Tryz.prog f_q43 c_q43 = true := by kernel_rfl
theorem k_spec_l3Twice : okFn Tryz.prog f_spec_l3Twice c_spec_l3Twice = true := by kernel_rfl
theorem k_spec_l3All : okFn Tryz.prog f_spec_l3All c_spec_l3All = true := by kernel_rfl
theorem k_laws_szCond : okFn Tryz.prog f_laws_szCond c_laws_szCond = true := by kernel_rfl
theorem k_laws_toCond : okFn Tryz.prog f_laws_toCond c_laws_toCond = true := by kernel_rfl
theorem k_laws_eqCond : okFn Tryz.prog f_laws_eqCond c_laws_eqCond = true := by kernel_rfl
theorem k_q49 : okFn Tryz.prog f_q49 c_q49 = true := by kernel_rfl
theorem k_q50 : okFn Tryz.prog f_q50 c_q50 = true := by kernel_rfl
theorem k_q51 : okFn Tryz.prog f_q51 c_q51 = true := by kernel_rfl
theorem k_q52 : okFn Tryz.prog f_q52 c_q52 = true := by kernel_rfl
theorem k_laws_eqValS : okFn Tryz.prog f_laws_eqValS c_laws_eqValS = true := by kernel_rfl
theorem k_q54 : okFn Tryz.prog f_q54 c_q54 = true := by kernel_rfl
theorem k_impl_ValLess : okFn Tryz.prog f_impl_ValLess c_impl_ValLess = true := by kernel_rfl
theorem k_laws_szCol : okFn Tryz.prog f_laws_szCol c_laws_szCol = true := by kernel_rfl
theorem k_q57 : okFn Tryz.prog f_q57 c_q57 = true := by kernel_rfl
theorem k_laws_szRow : okFn Tryz.prog f_laws_szRow c_laws_szRow = true := by kernel_rfl
theorem k_spec_l3Shape : okFn Tryz.prog f_spec_l3Shape c_spec_l3Shape = true := by kernel_rfl
theorem k_laws_toCol : okFn Tryz.prog f_laws_toCol c_laws_toCol = true := by kernel_rfl
theorem k_q61 : okFn Tryz.prog f_q61 c_q61 = true := by kernel_rfl
theorem k_laws_toRow : okFn Tryz.prog f_laws_toRow c_laws_toRow = true := by kernel_rfl
theorem k_laws_eqCol : okFn Tryz.prog f_laws_eqCol c_laws_eqCol = true := by kernel_rfl
theorem k_q64 : okFn Tryz.prog f_q64 c_q64 = true := by kernel_rfl
theorem k_laws_eqRow : okFn Tryz.prog f_laws_eqRow c_laws_eqRow = true := by kernel_rfl
theorem k_spec_RowAll : okFn Tryz.prog f_spec_RowAll c_spec_RowAll = true := by kernel_rfl
theorem k_q67 : okFn Tryz.prog f_q67 c_q67 = true := by kernel_rfl
theorem k_impl_in : okFn Tryz.prog f_impl_in c_impl_in = true := by kernel_rfl
theorem k_impl_changes : okFn Tryz.prog f_impl_changes c_impl_changes = true := by kernel_rfl
theorem k_impl_rowOk : okFn Tryz.prog f_impl_rowOk c_impl_rowOk = true := by kernel_rfl
theorem k_q72 : okFn Tryz.prog f_q72 c_q72 = true := by kernel_rfl
theorem k_impl_ValOk : okFn Tryz.prog f_impl_ValOk c_impl_ValOk = true := by kernel_rfl
theorem k_q74 : okFn Tryz.prog f_q74 c_q74 = true := by kernel_rfl
theorem k_spec_CondOk : okFn Tryz.prog f_spec_CondOk c_spec_CondOk = true := by kernel_rfl
theorem k_spec_ValLess : okFn Tryz.prog f_spec_ValLess c_spec_ValLess = true := by kernel_rfl
theorem k_impl_ColOk : okFn Tryz.prog f_impl_ColOk c_impl_ColOk = true := by kernel_rfl
theorem k_q78 : okFn Tryz.prog f_q78 c_q78 = true := by kernel_rfl
theorem k_impl_colAt_1 : okFn Tryz.prog f_impl_colAt_1 c_impl_colAt_1 = true := by kernel_rfl
theorem k_spec_ShapeOk : okFn Tryz.prog f_spec_ShapeOk c_spec_ShapeOk = true := by kernel_rfl
theorem k_spec_ShapeDo : okFn Tryz.prog f_spec_ShapeDo c_spec_ShapeDo = true := by kernel_rfl
theorem k_spec_RowOk : okFn Tryz.prog f_spec_RowOk c_spec_RowOk = true := by kernel_rfl
theorem k_laws_szVal : okFn Tryz.prog f_laws_szVal c_laws_szVal = true := by kernel_rfl
theorem k_laws_toVal : okFn Tryz.prog f_laws_toVal c_laws_toVal = true := by kernel_rfl
theorem k_laws_eqVal : okFn Tryz.prog f_laws_eqVal c_laws_eqVal = true := by kernel_rfl
theorem k_laws_szValS : okFn Tryz.prog f_laws_szValS c_laws_szValS = true := by kernel_rfl
theorem k_laws_toValS : okFn Tryz.prog f_laws_toValS c_laws_toValS = true := by kernel_rfl
theorem k_spec_l2Row : okFn Tryz.prog f_spec_l2Row c_spec_l2Row = true := by kernel_rfl
theorem k_q90 : okFn Tryz.prog f_q90 c_q90 = true := by kernel_rfl
theorem k_impl_change : okFn Tryz.prog f_impl_change c_impl_change = true := by kernel_rfl
theorem k_q92 : okFn Tryz.prog f_q92 c_q92 = true := by kernel_rfl
theorem k_q93 : okFn Tryz.prog f_q93 c_q93 = true := by kernel_rfl
theorem k_q94 : okFn Tryz.prog f_q94 c_q94 = true := by kernel_rfl
theorem k_spec_ValOk : okFn Tryz.prog f_spec_ValOk c_spec_ValOk = true := by kernel_rfl
theorem k_impl_isName : okFn Tryz.prog f_impl_isName c_impl_isName = true := by kernel_rfl
theorem k_spec_ColOk : okFn Tryz.prog f_spec_ColOk c_spec_ColOk = true := by kernel_rfl
theorem k_spec_l2Do : okFn Tryz.prog f_spec_l2Do c_spec_l2Do = true := by kernel_rfl
theorem k_spec_ValAs : okFn Tryz.prog f_spec_ValAs c_spec_ValAs = true := by kernel_rfl
theorem k_q100 : okFn Tryz.prog f_q100 c_q100 = true := by kernel_rfl
theorem k_q102 : okFn Tryz.prog f_q102 c_q102 = true := by kernel_rfl
theorem k_q103 : okFn Tryz.prog f_q103 c_q103 = true := by kernel_rfl
theorem k_impl_ValAs : okFn Tryz.prog f_impl_ValAs c_impl_ValAs = true := by kernel_rfl
theorem k_q105 : okFn Tryz.prog f_q105 c_q105 = true := by kernel_rfl
theorem k_q107 : okFn Tryz.prog f_q107 c_q107 = true := by kernel_rfl
theorem k_spec_l1Num : okFn Tryz.prog f_spec_l1Num c_spec_l1Num = true := by kernel_rfl
theorem k_spec_l1Text : okFn Tryz.prog f_spec_l1Text c_spec_l1Text = true := by kernel_rfl
theorem k_spec_l2Name : okFn Tryz.prog f_spec_l2Name c_spec_l2Name = true := by kernel_rfl
theorem k_spec_l2Rest : okFn Tryz.prog f_spec_l2Rest c_spec_l2Rest = true := by kernel_rfl
theorem k_spec_l2Cut : okFn Tryz.prog f_spec_l2Cut c_spec_l2Cut = true := by kernel_rfl
theorem k_spec_l10Num : okFn Tryz.prog f_spec_l10Num c_spec_l10Num = true := by kernel_rfl
theorem k_spec_l10Dec : okFn Tryz.prog f_spec_l10Dec c_spec_l10Dec = true := by kernel_rfl
theorem k_laws_toTable_D : okFn Tryz.prog f_laws_toTable c_laws_toTable_D = true := by kernel_rfl
theorem k_laws_toRowS_D : okFn Tryz.prog f_laws_toRowS c_laws_toRowS_D = true := by kernel_rfl
theorem fns_ok : ∀ x ∈ fns, okFn Tryz.prog x.1 x.2 = true :=
  List.forall_mem_cons.2 ⟨k_q0, List.forall_mem_cons.2 ⟨k_laws_szTable, List.forall_mem_cons.2 ⟨k_laws_eqTable, List.forall_mem_cons.2 ⟨k_laws_eqIntS, List.forall_mem_cons.2 ⟨k_impl_AskIds, List.forall_mem_cons.2 ⟨k_spec_AskIds, List.forall_mem_cons.2 ⟨k_spec_TableOk, List.forall_mem_cons.2 ⟨k_laws_szCondS, List.forall_mem_cons.2 ⟨k_laws_toCondS, List.forall_mem_cons.2 ⟨k_laws_eqCondS, List.forall_mem_cons.2 ⟨k_q11, List.forall_mem_cons.2 ⟨k_q12, List.forall_mem_cons.2 ⟨k_q13, List.forall_mem_cons.2 ⟨k_q14, List.forall_mem_cons.2 ⟨k_laws_szColS, List.forall_mem_cons.2 ⟨k_q17, List.forall_mem_cons.2 ⟨k_laws_szRowS, List.forall_mem_cons.2 ⟨k_spec_l2At, List.forall_mem_cons.2 ⟨k_spec_l3Last, List.forall_mem_cons.2 ⟨k_laws_toColS, List.forall_mem_cons.2 ⟨k_q23, List.forall_mem_cons.2 ⟨k_laws_eqColS, List.forall_mem_cons.2 ⟨k_q26, List.forall_mem_cons.2 ⟨k_laws_eqRowS, List.forall_mem_cons.2 ⟨k_spec_l3Now, List.forall_mem_cons.2 ⟨k_impl_TableOk, List.forall_mem_cons.2 ⟨k_q30, List.forall_mem_cons.2 ⟨k_q31, List.forall_mem_cons.2 ⟨k_q32, List.forall_mem_cons.2 ⟨k_q33, List.forall_mem_cons.2 ⟨k_q34, List.forall_mem_cons.2 ⟨k_q35, List.forall_mem_cons.2 ⟨k_impl_hasCond, List.forall_mem_cons.2 ⟨k_q37, List.forall_mem_cons.2 ⟨k_spec_l7Conds, List.forall_mem_cons.2 ⟨k_spec_l7Has, List.forall_mem_cons.2 ⟨k_impl_ShapeOk, List.forall_mem_cons.2 ⟨k_impl_colAt, List.forall_mem_cons.2 ⟨k_q42, List.forall_mem_cons.2 ⟨k_q43, List.forall_mem_cons.2 ⟨k_spec_l3Twice, List.forall_mem_cons.2 ⟨k_spec_l3All, List.forall_mem_cons.2 ⟨k_laws_szCond, List.forall_mem_cons.2 ⟨k_laws_toCond, List.forall_mem_cons.2 ⟨k_laws_eqCond, List.forall_mem_cons.2 ⟨k_q49, List.forall_mem_cons.2 ⟨k_q50, List.forall_mem_cons.2 ⟨k_q51, List.forall_mem_cons.2 ⟨k_q52, List.forall_mem_cons.2 ⟨k_laws_eqValS, List.forall_mem_cons.2 ⟨k_q54, List.forall_mem_cons.2 ⟨k_impl_ValLess, List.forall_mem_cons.2 ⟨k_laws_szCol, List.forall_mem_cons.2 ⟨k_q57, List.forall_mem_cons.2 ⟨k_laws_szRow, List.forall_mem_cons.2 ⟨k_spec_l3Shape, List.forall_mem_cons.2 ⟨k_laws_toCol, List.forall_mem_cons.2 ⟨k_q61, List.forall_mem_cons.2 ⟨k_laws_toRow, List.forall_mem_cons.2 ⟨k_laws_eqCol, List.forall_mem_cons.2 ⟨k_q64, List.forall_mem_cons.2 ⟨k_laws_eqRow, List.forall_mem_cons.2 ⟨k_spec_RowAll, List.forall_mem_cons.2 ⟨k_q67, List.forall_mem_cons.2 ⟨k_impl_in, List.forall_mem_cons.2 ⟨k_impl_changes, List.forall_mem_cons.2 ⟨k_impl_rowOk, List.forall_mem_cons.2 ⟨k_q72, List.forall_mem_cons.2 ⟨k_impl_ValOk, List.forall_mem_cons.2 ⟨k_q74, List.forall_mem_cons.2 ⟨k_spec_CondOk, List.forall_mem_cons.2 ⟨k_spec_ValLess, List.forall_mem_cons.2 ⟨k_impl_ColOk, List.forall_mem_cons.2 ⟨k_q78, List.forall_mem_cons.2 ⟨k_impl_colAt_1, List.forall_mem_cons.2 ⟨k_spec_ShapeOk, List.forall_mem_cons.2 ⟨k_spec_ShapeDo, List.forall_mem_cons.2 ⟨k_spec_RowOk, List.forall_mem_cons.2 ⟨k_laws_szVal, List.forall_mem_cons.2 ⟨k_laws_toVal, List.forall_mem_cons.2 ⟨k_laws_eqVal, List.forall_mem_cons.2 ⟨k_laws_szValS, List.forall_mem_cons.2 ⟨k_laws_toValS, List.forall_mem_cons.2 ⟨k_spec_l2Row, List.forall_mem_cons.2 ⟨k_q90, List.forall_mem_cons.2 ⟨k_impl_change, List.forall_mem_cons.2 ⟨k_q92, List.forall_mem_cons.2 ⟨k_q93, List.forall_mem_cons.2 ⟨k_q94, List.forall_mem_cons.2 ⟨k_spec_ValOk, List.forall_mem_cons.2 ⟨k_impl_isName, List.forall_mem_cons.2 ⟨k_spec_ColOk, List.forall_mem_cons.2 ⟨k_spec_l2Do, List.forall_mem_cons.2 ⟨k_spec_ValAs, List.forall_mem_cons.2 ⟨k_q100, List.forall_mem_cons.2 ⟨k_q102, List.forall_mem_cons.2 ⟨k_q103, List.forall_mem_cons.2 ⟨k_impl_ValAs, List.forall_mem_cons.2 ⟨k_q105, List.forall_mem_cons.2 ⟨k_q107, List.forall_mem_cons.2 ⟨k_spec_l1Num, List.forall_mem_cons.2 ⟨k_spec_l1Text, List.forall_mem_cons.2 ⟨k_spec_l2Name, List.forall_mem_cons.2 ⟨k_spec_l2Rest, List.forall_mem_cons.2 ⟨k_spec_l2Cut, List.forall_mem_cons.2 ⟨k_spec_l10Num, List.forall_mem_cons.2 ⟨k_spec_l10Dec, fun x h => absurd h List.not_mem_nil⟩⟩⟩⟩⟩⟩⟩⟩⟩⟩⟩⟩⟩⟩⟩⟩⟩⟩⟩⟩⟩⟩⟩⟩⟩⟩⟩⟩⟩⟩⟩⟩⟩⟩⟩⟩⟩⟩⟩⟩⟩⟩⟩⟩⟩⟩⟩⟩⟩⟩⟩⟩⟩⟩⟩⟩⟩⟩⟩⟩⟩⟩⟩⟩⟩⟩⟩⟩⟩⟩⟩⟩⟩⟩⟩⟩⟩⟩⟩⟩⟩⟩⟩⟩⟩⟩⟩⟩⟩⟩⟩⟩⟩⟩⟩⟩⟩⟩⟩⟩⟩⟩⟩⟩⟩⟩⟩
theorem dns_ok : ∀ x ∈ dnfns, okFn Tryz.prog x.1 x.2 = true :=
  List.forall_mem_cons.2 ⟨k_laws_toTable_D, List.forall_mem_cons.2 ⟨k_laws_toRowS_D, fun x h => absurd h List.not_mem_nil⟩⟩
theorem orders : Tryz.prog.follows .mixedOrders = true := by kernel_rfl
theorem k_q101 : okClone Tryz.prog f_q101 t_impl_Col = true := by kernel_rfl
theorem k_q106 : okClone Tryz.prog f_q106 t_impl_Val = true := by kernel_rfl
theorem exts_ok : ∀ x ∈ exts, CallsOk Tryz.prog x.2 x.1 ∧ Enter Tryz.prog x.1 :=
  List.forall_mem_cons.2 ⟨okClone_sound k_q101 orders, List.forall_mem_cons.2 ⟨okClone_sound k_q106 orders, List.forall_mem_cons.2 ⟨itoa_ok, List.forall_mem_cons.2 ⟨atoi_ok, fun x h => absurd h List.not_mem_nil⟩⟩⟩⟩
theorem inss_ok : ∀ x ∈ inss, DcOk Tryz.prog (insF x.2) x.1 ∧ Enter Tryz.prog x.1 :=
  fun x h => absurd h List.not_mem_nil
theorem look_mem {α : Type} {f : Nat} : ∀ {l : List (Nat × α)} {x : α}, look f l = some x → (f, x) ∈ l
  | [], x, h => by cases h
  | y :: ys, x, h => by
    unfold look at h
    split at h
    · rename_i e; simp only [Option.some.injEq] at h; subst e; subst h; exact List.mem_cons_self
    · exact List.mem_cons_of_mem _ (look_mem h)
end Go.Vm.T
end
