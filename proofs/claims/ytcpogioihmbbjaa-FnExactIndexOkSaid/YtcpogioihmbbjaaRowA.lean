/-
  The law FnExactIndexOk answers true for every input
-/
import Derived.Test.YtcpogioihmbbjaaRd
import Derived.Test.YtcpogioihmbbjaaRows
section
set_option linter.unusedVariables false
set_option linter.unusedSimpArgs false
namespace Go.Proofs.Ytcpogioihmbbjaa
open Go.ChangeShapes Go.WideShapes Go.ChangeAt Go.RowKit Go.Vm Go.Vm.T

theorem own : ownKnob Try.prog.godebug = none := by kernel_rfl
theorem laid : laidOutB Try.prog = true := by kernel_rfl
theorem bools : Try.prog.underlying t_bool = some .bool := by kernel_rfl
theorem entSlice : Try.prog.underlying t_S_laws_Entry = some (.slice t_laws_Entry) := by kernel_rfl
theorem sl1 : Try.prog.cellsOf t_S_laws_Entry = 1 := by kernel_rfl
theorem entPos : 0 < Try.prog.cellsOf t_laws_Entry := by decide +kernel
theorem rdbl1 : Try.prog.readableRec t_S_laws_Entry = true ∧ t_S_laws_Entry < Try.prog.types.size := by constructor <;> decide +kernel
theorem fit_of {xs : List Ent} (h : xs.length ≤ maxLen ∧ ∀ x ∈ xs, okEnt x) : Fit xs := ⟨h.1, fun e he => (h.2 e he).1.2.2⟩

set_option maxRecDepth 100000 in
theorem IndexOk_lifted (os : Os) (started : os.Started) (H : Type) (enc : TypeId × Value → H) :
    ReturnsInHanded {} Try.checked os f_laws_FnExactIndexOk .any (Rows.fnExactIndexOkSpec.pre6 enc Try.prog Try.f3 Rows.fnExactIndexOkRow.domain false) (Rows.fnExactIndexOkSpec.post enc Try.prog Try.f3 false true false false) := by
  refine returnsInHanded_of_change (C := Try.checked) own started (by kernel_rfl) Try.func3
    (ChangeSpec.witness6 (enc := enc) (C := Try.checked) false ⟨#[], #[.slice none 0 0], []⟩ 8 (by kernel_rfl) (by kernel_rfl) (by kernel_rfl) (by kernel_rfl)) ?_
  intro W base args ds gs before hval0 hW hcnd _
  have hval : ∀ (j : Nat) t v, Try.f3.params[j]? = some t → args[j]? = some v → Value.okWide Try.prog W .any base t v := hval0
  refine law_contract (D := 5) (tb := t_bool) (p := pr) pr_ok laid ?_ rfl (by kernel_rfl) bools ?_ hW ?_
  · rw [Try.params3]
    intro t ht
    rcases List.mem_cons.1 ht with rfl | ht
    · exact rdbl1
    · cases ht
  · intro ds hd
    rw [Try.params3] at hd
    obtain ⟨d, rfl⟩ : ∃ d, ds = [d] := by
      match ds, hd with
      | [d], _ => exact ⟨d, rfl⟩
    exact ⟨rfl, rfl, rfl⟩
  · intro q hA
    rw [Try.params3] at hA hval
    obtain ⟨v0, vs, d, ds', p0, p1, hv, rfl, rfl, h0, h1⟩ := trodAll_cons hA
    obtain ⟨hvs, rfl, rfl⟩ := trodAll_nil h1
    subst hvs
    have hsz : args = #[v0] := by
      apply Array.ext'
      simpa using hv
    subst hsz
    obtain ⟨xs, hx, hr⟩ := arg_slice entSlice sl1 entPos rEnt (hval 0 _ v0 rfl rfl) h0
    exact ⟨_, .cons hr .nil, d_FnExactIndexOk (Nat.le_refl _) xs (fit_of hx)⟩

theorem IndexOk_holds : Rows.FnExactIndexOkSaid :=
  OpenClaim.holds_of_wide 3 Try.f3 rfl rfl rfl rfl rfl rfl rfl ⟨rfl, rfl, rfl, rfl, rfl⟩ rfl rfl rfl rfl rfl (by kernel_rfl) Try.func3 (by kernel_rfl)
    (of_decide_eq_true (by kernel_rfl)) (by unfold Func.isWrapper; first | (rw [if_pos (by decide +kernel)]; kernel_rfl) | (rw [if_neg (by decide +kernel)]; exact ⟨rfl, rfl⟩))
    (fun os started H enc _ => IndexOk_lifted os started H enc)
end Go.Proofs.Ytcpogioihmbbjaa
end
