/-
  The lowered code is the program's, by the kernel
-/
import Derived.Test.YtjiklhnijhiphaaCode
import Derived.Test.YtjiklhnijhiphaaProg
import Derived.Test.YtjiklhnijhiphaaIns
import Derived.KernelRfl
section
set_option linter.unusedVariables false
set_option linter.unusedSimpArgs false
/- The lowered code is the program's: reckoned by the kernel, a function at a time. Made by a program of this work. -/
namespace Go.Vm.T
open Go.Proofs
theorem k_gosem_cut_init : okFn Try.prog f_gosem_cut_init c_gosem_cut_init = true := by kernel_rfl
theorem k_laws_FnExactIndexOk : okFn Try.prog f_laws_FnExactIndexOk c_laws_FnExactIndexOk = true := by kernel_rfl
theorem k_laws_FnExactIndexOnce : okFn Try.prog f_laws_FnExactIndexOnce c_laws_FnExactIndexOnce = true := by kernel_rfl
theorem k_laws_FnIndexAll : okFn Try.prog f_laws_FnIndexAll c_laws_FnIndexAll = true := by kernel_rfl
theorem k_laws_FnIndexOnce : okFn Try.prog f_laws_FnIndexOnce c_laws_FnIndexOnce = true := by kernel_rfl
theorem k_laws_FnIndexSpan : okFn Try.prog f_laws_FnIndexSpan c_laws_FnIndexSpan = true := by kernel_rfl
theorem k_laws_FnExactCondOk : okFn Try.prog f_laws_FnExactCondOk c_laws_FnExactCondOk = true := by kernel_rfl
theorem k_laws_FnExactIndexFind : okFn Try.prog f_laws_FnExactIndexFind c_laws_FnExactIndexFind = true := by kernel_rfl
theorem k_laws_FnExactIndexSpan : okFn Try.prog f_laws_FnExactIndexSpan c_laws_FnExactIndexSpan = true := by kernel_rfl
theorem k_laws_FnExactIndexOff : okFn Try.prog f_laws_FnExactIndexOff c_laws_FnExactIndexOff = true := by kernel_rfl
theorem k_laws_FnExactIndexPut : okFn Try.prog f_laws_FnExactIndexPut c_laws_FnExactIndexPut = true := by kernel_rfl
theorem k_laws_FnIndexOff : okFn Try.prog f_laws_FnIndexOff c_laws_FnIndexOff = true := by kernel_rfl
theorem k_laws_FnIndexPut : okFn Try.prog f_laws_FnIndexPut c_laws_FnIndexPut = true := by kernel_rfl
theorem k_laws_szEntryS : okFn Try.prog f_laws_szEntryS c_laws_szEntryS = true := by kernel_rfl
theorem k_spec_IndexOk : okFn Try.prog f_spec_IndexOk c_spec_IndexOk = true := by kernel_rfl
theorem k_laws_toEntryS : okFn Try.prog f_laws_toEntryS c_laws_toEntryS = true := by kernel_rfl
theorem k_impl_IndexOk : okFn Try.prog f_impl_IndexOk c_impl_IndexOk = true := by kernel_rfl
theorem k_laws_eqEntryS : okFn Try.prog f_laws_eqEntryS c_laws_eqEntryS = true := by kernel_rfl
theorem k_spec_IndexOnce : okFn Try.prog f_spec_IndexOnce c_spec_IndexOnce = true := by kernel_rfl
theorem k_impl_IndexOnce : okFn Try.prog f_impl_IndexOnce c_impl_IndexOnce = true := by kernel_rfl
theorem k_spec_DrawIndexOk : okFn Try.prog f_spec_DrawIndexOk c_spec_DrawIndexOk = true := by kernel_rfl
theorem k_impl_IndexSpan : okFn Try.prog f_impl_IndexSpan c_impl_IndexSpan = true := by kernel_rfl
theorem k_laws_wpNums : okFn Try.prog f_laws_wpNums c_laws_wpNums = true := by kernel_rfl
theorem k_impl_IndexFind : okFn Try.prog f_impl_IndexFind c_impl_IndexFind = true := by kernel_rfl
theorem k_spec_DrawIndexOnce : okFn Try.prog f_spec_DrawIndexOnce c_spec_DrawIndexOnce = true := by kernel_rfl
theorem k_spec_DrawIndexSpan : okFn Try.prog f_spec_DrawIndexSpan c_spec_DrawIndexSpan = true := by kernel_rfl
theorem k_spec_IndexSpan : okFn Try.prog f_spec_IndexSpan c_spec_IndexSpan = true := by kernel_rfl
theorem k_impl_ValLess : okFn Try.prog f_impl_ValLess c_impl_ValLess = true := by kernel_rfl
theorem k_laws_szColS : okFn Try.prog f_laws_szColS c_laws_szColS = true := by kernel_rfl
theorem k_laws_szCond : okFn Try.prog f_laws_szCond c_laws_szCond = true := by kernel_rfl
theorem k_spec_CondOk : okFn Try.prog f_spec_CondOk c_spec_CondOk = true := by kernel_rfl
theorem k_laws_toColS : okFn Try.prog f_laws_toColS c_laws_toColS = true := by kernel_rfl
theorem k_laws_toCond : okFn Try.prog f_laws_toCond c_laws_toCond = true := by kernel_rfl
theorem k_impl_CondOk : okFn Try.prog f_impl_CondOk c_impl_CondOk = true := by kernel_rfl
theorem k_laws_eqColS : okFn Try.prog f_laws_eqColS c_laws_eqColS = true := by kernel_rfl
theorem k_laws_szVal : okFn Try.prog f_laws_szVal c_laws_szVal = true := by kernel_rfl
theorem k_spec_IndexFind : okFn Try.prog f_spec_IndexFind c_spec_IndexFind = true := by kernel_rfl
theorem k_laws_toVal : okFn Try.prog f_laws_toVal c_laws_toVal = true := by kernel_rfl
theorem k_laws_eqIntS : okFn Try.prog f_laws_eqIntS c_laws_eqIntS = true := by kernel_rfl
theorem k_laws_markEntryS : okFn Try.prog f_laws_markEntryS c_laws_markEntryS = true := by kernel_rfl
theorem k_laws_markIntS : okFn Try.prog f_laws_markIntS c_laws_markIntS = true := by kernel_rfl
theorem k_laws_heldIntS : okFn Try.prog f_laws_heldIntS c_laws_heldIntS = true := by kernel_rfl
theorem k_laws_szEntry : okFn Try.prog f_laws_szEntry c_laws_szEntry = true := by kernel_rfl
theorem k_spec_IndexOff : okFn Try.prog f_spec_IndexOff c_spec_IndexOff = true := by kernel_rfl
theorem k_laws_toEntry : okFn Try.prog f_laws_toEntry c_laws_toEntry = true := by kernel_rfl
theorem k_impl_IndexOff : okFn Try.prog f_impl_IndexOff c_impl_IndexOff = true := by kernel_rfl
theorem k_laws_heldEntryS : okFn Try.prog f_laws_heldEntryS c_laws_heldEntryS = true := by kernel_rfl
theorem k_spec_IndexPut : okFn Try.prog f_spec_IndexPut c_spec_IndexPut = true := by kernel_rfl
theorem k_impl_IndexPut : okFn Try.prog f_impl_IndexPut c_impl_IndexPut = true := by kernel_rfl
theorem k_spec_DrawIndexOff : okFn Try.prog f_spec_DrawIndexOff c_spec_DrawIndexOff = true := by kernel_rfl
theorem k_laws_wpEntries : okFn Try.prog f_laws_wpEntries c_laws_wpEntries = true := by kernel_rfl
theorem k_spec_DrawIndexPut : okFn Try.prog f_spec_DrawIndexPut c_spec_DrawIndexPut = true := by kernel_rfl
theorem k_spec_ValOk : okFn Try.prog f_spec_ValOk c_spec_ValOk = true := by kernel_rfl
theorem k_spec_l8Less : okFn Try.prog f_spec_l8Less c_spec_l8Less = true := by kernel_rfl
theorem k_impl_Entry_ok : okFn Try.prog f_impl_Entry_ok c_impl_Entry_ok = true := by kernel_rfl
theorem k_impl_Entry_less : okFn Try.prog f_impl_Entry_less c_impl_Entry_less = true := by kernel_rfl
theorem k_laws_eqEntry : okFn Try.prog f_laws_eqEntry c_laws_eqEntry = true := by kernel_rfl
theorem k_spec_l8Some : okFn Try.prog f_spec_l8Some c_spec_l8Some = true := by kernel_rfl
theorem k_spec_l10Open : okFn Try.prog f_spec_l10Open c_spec_l10Open = true := by kernel_rfl
theorem k_impl_found : okFn Try.prog f_impl_found c_impl_found = true := by kernel_rfl
theorem k_impl_IndexSpan_1 : okFn Try.prog f_impl_IndexSpan_1 c_impl_IndexSpan_1 = true := by kernel_rfl
theorem k_impl_IndexFind_1 : okFn Try.prog f_impl_IndexFind_1 c_impl_IndexFind_1 = true := by kernel_rfl
theorem k_spec_l10Rd_pick : okFn Try.prog f_spec_l10Rd_pick c_spec_l10Rd_pick = true := by kernel_rfl
theorem k_spec_l1Some : okFn Try.prog f_spec_l1Some c_spec_l1Some = true := by kernel_rfl
theorem k_spec_ValLess : okFn Try.prog f_spec_ValLess c_spec_ValLess = true := by kernel_rfl
theorem k_laws_szCol : okFn Try.prog f_laws_szCol c_laws_szCol = true := by kernel_rfl
theorem k_spec_ShapeOk : okFn Try.prog f_spec_ShapeOk c_spec_ShapeOk = true := by kernel_rfl
theorem k_spec_l2At : okFn Try.prog f_spec_l2At c_spec_l2At = true := by kernel_rfl
theorem k_laws_toCol : okFn Try.prog f_laws_toCol c_laws_toCol = true := by kernel_rfl
theorem k_impl_ShapeOk : okFn Try.prog f_impl_ShapeOk c_impl_ShapeOk = true := by kernel_rfl
theorem k_impl_fitsCond : okFn Try.prog f_impl_fitsCond c_impl_fitsCond = true := by kernel_rfl
theorem k_laws_eqCol : okFn Try.prog f_laws_eqCol c_laws_eqCol = true := by kernel_rfl
theorem k_laws_markText : okFn Try.prog f_laws_markText c_laws_markText = true := by kernel_rfl
theorem k_spec_l8At : okFn Try.prog f_spec_l8At c_spec_l8At = true := by kernel_rfl
theorem k_impl_clone_impl_Entry : okFn Try.prog f_impl_clone_impl_Entry c_impl_clone_impl_Entry = true := by kernel_rfl
theorem k_slices_Index_S_impl_Entry_impl_Entry : okFn Try.prog f_slices_Index_S_impl_Entry_impl_Entry c_slices_Index_S_impl_Entry_impl_Entry = true := by kernel_rfl
theorem k_slices_Delete_S_impl_Entry_impl_Entry : okFn Try.prog f_slices_Delete_S_impl_Entry_impl_Entry c_slices_Delete_S_impl_Entry_impl_Entry = true := by kernel_rfl
theorem k_spec_l8Put : okFn Try.prog f_spec_l8Put c_spec_l8Put = true := by kernel_rfl
theorem k_impl_place : okFn Try.prog f_impl_place c_impl_place = true := by kernel_rfl
theorem k_spec_l1Num : okFn Try.prog f_spec_l1Num c_spec_l1Num = true := by kernel_rfl
theorem k_spec_l1Text : okFn Try.prog f_spec_l1Text c_spec_l1Text = true := by kernel_rfl
theorem k_impl_ValOk : okFn Try.prog f_impl_ValOk c_impl_ValOk = true := by kernel_rfl
theorem k_impl_in : okFn Try.prog f_impl_in c_impl_in = true := by kernel_rfl
theorem k_laws_eqVal : okFn Try.prog f_laws_eqVal c_laws_eqVal = true := by kernel_rfl
theorem k_spec_l10Rd_num : okFn Try.prog f_spec_l10Rd_num c_spec_l10Rd_num = true := by kernel_rfl
theorem k_spec_l1Draw : okFn Try.prog f_spec_l1Draw c_spec_l1Draw = true := by kernel_rfl
theorem k_slices_Clip_S_int_int : okFn Try.prog f_slices_Clip_S_int_int c_slices_Clip_S_int_int = true := by kernel_rfl
theorem k_spec_l10Rd_of : okFn Try.prog f_spec_l10Rd_of c_spec_l10Rd_of = true := by kernel_rfl
theorem k_spec_ColOk : okFn Try.prog f_spec_ColOk c_spec_ColOk = true := by kernel_rfl
theorem k_impl_ColOk : okFn Try.prog f_impl_ColOk c_impl_ColOk = true := by kernel_rfl
theorem k_impl_colAt : okFn Try.prog f_impl_colAt c_impl_colAt = true := by kernel_rfl
theorem k_slices_Clip_S_impl_Entry_impl_Entry : okFn Try.prog f_slices_Clip_S_impl_Entry_impl_Entry c_slices_Clip_S_impl_Entry_impl_Entry = true := by kernel_rfl
theorem k_slices_rotateRight_impl_Entry : okFn Try.prog f_slices_rotateRight_impl_Entry c_slices_rotateRight_impl_Entry = true := by kernel_rfl
theorem k_spec_l1Bent : okFn Try.prog f_spec_l1Bent c_spec_l1Bent = true := by kernel_rfl
theorem k_spec_l2Name : okFn Try.prog f_spec_l2Name c_spec_l2Name = true := by kernel_rfl
theorem k_impl_isName : okFn Try.prog f_impl_isName c_impl_isName = true := by kernel_rfl
theorem k_impl_Val_fits : okFn Try.prog f_impl_Val_fits c_impl_Val_fits = true := by kernel_rfl
theorem k_slices_IndexFunc_S_impl_Col_impl_Col : okFn Try.prog f_slices_IndexFunc_S_impl_Col_impl_Col c_slices_IndexFunc_S_impl_Col_impl_Col = true := by kernel_rfl
theorem k_impl_colAt_1 : okFn Try.prog f_impl_colAt_1 c_impl_colAt_1 = true := by kernel_rfl
theorem k_slices_rotateLeft_impl_Entry : okFn Try.prog f_slices_rotateLeft_impl_Entry c_slices_rotateLeft_impl_Entry = true := by kernel_rfl
theorem k_slices_Reverse_S_impl_Entry_impl_Entry : okFn Try.prog f_slices_Reverse_S_impl_Entry_impl_Entry c_slices_Reverse_S_impl_Entry_impl_Entry = true := by kernel_rfl
theorem fns_ok : ∀ x ∈ fns, okFn Try.prog x.1 x.2 = true :=
  List.forall_mem_cons.2 ⟨k_gosem_cut_init, List.forall_mem_cons.2 ⟨k_laws_FnExactIndexOk, List.forall_mem_cons.2 ⟨k_laws_FnExactIndexOnce, List.forall_mem_cons.2 ⟨k_laws_FnIndexAll, List.forall_mem_cons.2 ⟨k_laws_FnIndexOnce, List.forall_mem_cons.2 ⟨k_laws_FnIndexSpan, List.forall_mem_cons.2 ⟨k_laws_FnExactCondOk, List.forall_mem_cons.2 ⟨k_laws_FnExactIndexFind, List.forall_mem_cons.2 ⟨k_laws_FnExactIndexSpan, List.forall_mem_cons.2 ⟨k_laws_FnExactIndexOff, List.forall_mem_cons.2 ⟨k_laws_FnExactIndexPut, List.forall_mem_cons.2 ⟨k_laws_FnIndexOff, List.forall_mem_cons.2 ⟨k_laws_FnIndexPut, List.forall_mem_cons.2 ⟨k_laws_szEntryS, List.forall_mem_cons.2 ⟨k_spec_IndexOk, List.forall_mem_cons.2 ⟨k_laws_toEntryS, List.forall_mem_cons.2 ⟨k_impl_IndexOk, List.forall_mem_cons.2 ⟨k_laws_eqEntryS, List.forall_mem_cons.2 ⟨k_spec_IndexOnce, List.forall_mem_cons.2 ⟨k_impl_IndexOnce, List.forall_mem_cons.2 ⟨k_spec_DrawIndexOk, List.forall_mem_cons.2 ⟨k_impl_IndexSpan, List.forall_mem_cons.2 ⟨k_laws_wpNums, List.forall_mem_cons.2 ⟨k_impl_IndexFind, List.forall_mem_cons.2 ⟨k_spec_DrawIndexOnce, List.forall_mem_cons.2 ⟨k_spec_DrawIndexSpan, List.forall_mem_cons.2 ⟨k_spec_IndexSpan, List.forall_mem_cons.2 ⟨k_impl_ValLess, List.forall_mem_cons.2 ⟨k_laws_szColS, List.forall_mem_cons.2 ⟨k_laws_szCond, List.forall_mem_cons.2 ⟨k_spec_CondOk, List.forall_mem_cons.2 ⟨k_laws_toColS, List.forall_mem_cons.2 ⟨k_laws_toCond, List.forall_mem_cons.2 ⟨k_impl_CondOk, List.forall_mem_cons.2 ⟨k_laws_eqColS, List.forall_mem_cons.2 ⟨k_laws_szVal, List.forall_mem_cons.2 ⟨k_spec_IndexFind, List.forall_mem_cons.2 ⟨k_laws_toVal, List.forall_mem_cons.2 ⟨k_laws_eqIntS, List.forall_mem_cons.2 ⟨k_laws_markEntryS, List.forall_mem_cons.2 ⟨k_laws_markIntS, List.forall_mem_cons.2 ⟨k_laws_heldIntS, List.forall_mem_cons.2 ⟨k_laws_szEntry, List.forall_mem_cons.2 ⟨k_spec_IndexOff, List.forall_mem_cons.2 ⟨k_laws_toEntry, List.forall_mem_cons.2 ⟨k_impl_IndexOff, List.forall_mem_cons.2 ⟨k_laws_heldEntryS, List.forall_mem_cons.2 ⟨k_spec_IndexPut, List.forall_mem_cons.2 ⟨k_impl_IndexPut, List.forall_mem_cons.2 ⟨k_spec_DrawIndexOff, List.forall_mem_cons.2 ⟨k_laws_wpEntries, List.forall_mem_cons.2 ⟨k_spec_DrawIndexPut, List.forall_mem_cons.2 ⟨k_spec_ValOk, List.forall_mem_cons.2 ⟨k_spec_l8Less, List.forall_mem_cons.2 ⟨k_impl_Entry_ok, List.forall_mem_cons.2 ⟨k_impl_Entry_less, List.forall_mem_cons.2 ⟨k_laws_eqEntry, List.forall_mem_cons.2 ⟨k_spec_l8Some, List.forall_mem_cons.2 ⟨k_spec_l10Open, List.forall_mem_cons.2 ⟨k_impl_found, List.forall_mem_cons.2 ⟨k_impl_IndexSpan_1, List.forall_mem_cons.2 ⟨k_impl_IndexFind_1, List.forall_mem_cons.2 ⟨k_spec_l10Rd_pick, List.forall_mem_cons.2 ⟨k_spec_l1Some, List.forall_mem_cons.2 ⟨k_spec_ValLess, List.forall_mem_cons.2 ⟨k_laws_szCol, List.forall_mem_cons.2 ⟨k_spec_ShapeOk, List.forall_mem_cons.2 ⟨k_spec_l2At, List.forall_mem_cons.2 ⟨k_laws_toCol, List.forall_mem_cons.2 ⟨k_impl_ShapeOk, List.forall_mem_cons.2 ⟨k_impl_fitsCond, List.forall_mem_cons.2 ⟨k_laws_eqCol, List.forall_mem_cons.2 ⟨k_laws_markText, List.forall_mem_cons.2 ⟨k_spec_l8At, List.forall_mem_cons.2 ⟨k_impl_clone_impl_Entry, List.forall_mem_cons.2 ⟨k_slices_Index_S_impl_Entry_impl_Entry, List.forall_mem_cons.2 ⟨k_slices_Delete_S_impl_Entry_impl_Entry, List.forall_mem_cons.2 ⟨k_spec_l8Put, List.forall_mem_cons.2 ⟨k_impl_place, List.forall_mem_cons.2 ⟨k_spec_l1Num, List.forall_mem_cons.2 ⟨k_spec_l1Text, List.forall_mem_cons.2 ⟨k_impl_ValOk, List.forall_mem_cons.2 ⟨k_impl_in, List.forall_mem_cons.2 ⟨k_laws_eqVal, List.forall_mem_cons.2 ⟨k_spec_l10Rd_num, List.forall_mem_cons.2 ⟨k_spec_l1Draw, List.forall_mem_cons.2 ⟨k_slices_Clip_S_int_int, List.forall_mem_cons.2 ⟨k_spec_l10Rd_of, List.forall_mem_cons.2 ⟨k_spec_ColOk, List.forall_mem_cons.2 ⟨k_impl_ColOk, List.forall_mem_cons.2 ⟨k_impl_colAt, List.forall_mem_cons.2 ⟨k_slices_Clip_S_impl_Entry_impl_Entry, List.forall_mem_cons.2 ⟨k_slices_rotateRight_impl_Entry, List.forall_mem_cons.2 ⟨k_spec_l1Bent, List.forall_mem_cons.2 ⟨k_spec_l2Name, List.forall_mem_cons.2 ⟨k_impl_isName, List.forall_mem_cons.2 ⟨k_impl_Val_fits, List.forall_mem_cons.2 ⟨k_slices_IndexFunc_S_impl_Col_impl_Col, List.forall_mem_cons.2 ⟨k_impl_colAt_1, List.forall_mem_cons.2 ⟨k_slices_rotateLeft_impl_Entry, List.forall_mem_cons.2 ⟨k_slices_Reverse_S_impl_Entry_impl_Entry, fun x h => absurd h List.not_mem_nil⟩⟩⟩⟩⟩⟩⟩⟩⟩⟩⟩⟩⟩⟩⟩⟩⟩⟩⟩⟩⟩⟩⟩⟩⟩⟩⟩⟩⟩⟩⟩⟩⟩⟩⟩⟩⟩⟩⟩⟩⟩⟩⟩⟩⟩⟩⟩⟩⟩⟩⟩⟩⟩⟩⟩⟩⟩⟩⟩⟩⟩⟩⟩⟩⟩⟩⟩⟩⟩⟩⟩⟩⟩⟩⟩⟩⟩⟩⟩⟩⟩⟩⟩⟩⟩⟩⟩⟩⟩⟩⟩⟩⟩⟩⟩⟩⟩⟩⟩⟩⟩
theorem orders : Try.prog.follows .mixedOrders = true := by kernel_rfl
theorem k_slices_Clone_S_impl_Entry_impl_Entry : okClone Try.prog f_slices_Clone_S_impl_Entry_impl_Entry t_impl_Entry = true := by kernel_rfl
theorem exts_ok : ∀ x ∈ exts, CallsOk Try.prog x.2 x.1 ∧ Enter Try.prog x.1 :=
  List.forall_mem_cons.2 ⟨okClone_sound k_slices_Clone_S_impl_Entry_impl_Entry orders, fun x h => absurd h List.not_mem_nil⟩
theorem inss_ok : ∀ x ∈ inss, DcOk Try.prog (insF x.2) x.1 ∧ Enter Try.prog x.1 :=
  List.forall_mem_cons.2 ⟨⟨ins_dc insw_80, insw_80.enter⟩, fun x h => absurd h List.not_mem_nil⟩
theorem look_mem {α : Type} {f : Nat} : ∀ {l : List (Nat × α)} {x : α}, look f l = some x → (f, x) ∈ l
  | [], x, h => by cases h
  | y :: ys, x, h => by
    unfold look at h
    split at h
    · rename_i e; simp only [Option.some.injEq] at h; subst e; subst h; exact List.mem_cons_self
    · exact List.mem_cons_of_mem _ (look_mem h)
set_option maxRecDepth 100000 in
theorem pr_ok : ProgOk Try.prog pr := ⟨orders, fun f fn h => fns_ok _ (look_mem h), fun f F h => exts_ok _ (look_mem h), fun f e h => inss_ok (f, e) (look_mem (l := inss) h)⟩
end Go.Vm.T
end
