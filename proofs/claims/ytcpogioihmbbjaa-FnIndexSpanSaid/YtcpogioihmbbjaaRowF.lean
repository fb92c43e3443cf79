/-
  The laws FnIndexOnce and FnIndexSpan answer true for every input
-/
import Derived.Test.YtcpogioihmbbjaaRdB
import Derived.Test.YtcpogioihmbbjaaFnsF
section
set_option linter.unusedVariables false
set_option linter.unusedSimpArgs false
namespace Go.Proofs.Ytcpogioihmbbjaa
open Go.ChangeShapes Go.WideShapes Go.ChangeAt Go.RowKit Go.Vm Go.Vm.T

set_option maxRecDepth 100000 in
theorem FnIndexOnce_lifted (os : Os) (started : os.Started) (H : Type) (enc : TypeId × Value → H) :
    ReturnsInHanded Rows.fnIndexOnceRow.assume Try.checked os f_laws_FnIndexOnce .any (Rows.fnIndexOnceSpec.pre6 enc Try.prog Try.f6 Rows.fnIndexOnceRow.domain false) (Rows.fnIndexOnceSpec.post enc Try.prog Try.f6 false true false false) := by
  refine returnsInHanded_of_change (C := Try.checked) own started (by kernel_rfl) Try.func6
    (ChangeSpec.witness6 (enc := enc) (C := Try.checked) false ⟨#[], #[.slice none 0 0], []⟩ 8 (by kernel_rfl) (by kernel_rfl) (by kernel_rfl) (by kernel_rfl)) ?_
  intro W base args ds gs before hval0 hW hcnd _
  have hval : ∀ (j : Nat) t v, Try.f6.params[j]? = some t → args[j]? = some v → Value.okWide Try.prog W .any base t v := hval0
  refine law_contract (D := 8) (tb := t_bool) (p := pr) pr_ok laid (by rw [Try.params6]; decide +kernel) rfl (by kernel_rfl) bools ?_ hW ?_
  · intro ds hd
    rw [Try.params6] at hd
    match ds, hd with
    | [d0], _ => exact ⟨rfl, rfl, rfl⟩
  · intro q hA
    rw [Try.params6] at hA hval
    obtain ⟨v0, vs0, d0, ds0, p0, q0, hv0, rfl, rfl, h0, g0⟩ := trodAll_cons hA
    obtain ⟨hvs, rfl, rfl⟩ := trodAll_nil g0
    subst hvs
    have hsz : args = #[v0] := by
      apply Array.ext'
      simpa using hv0
    subst hsz
    obtain ⟨x0, hx0, hr0⟩ := arg_slice byteSlice slB bytePos rByte (hval 0 _ v0 rfl rfl) h0
    exact ⟨_, .cons hr0 (.nil), d_FnIndexOnce (Nat.le_refl _) x0 (bytes_of hx0)⟩

theorem FnIndexOnce_holds : Rows.FnIndexOnceSaid :=
  OpenClaim.holds_of_wide 6 Try.f6 rfl rfl rfl rfl rfl rfl rfl ⟨rfl, rfl, rfl, rfl, rfl⟩ rfl rfl rfl rfl rfl (by kernel_rfl) Try.func6 (by kernel_rfl)
    (of_decide_eq_true (by kernel_rfl)) (by unfold Func.isWrapper; first | (rw [if_pos (by decide +kernel)]; kernel_rfl) | (rw [if_neg (by decide +kernel)]; exact ⟨rfl, rfl⟩))
    (fun os started H enc _ => FnIndexOnce_lifted os started H enc)

set_option maxRecDepth 100000 in
theorem FnIndexSpan_lifted (os : Os) (started : os.Started) (H : Type) (enc : TypeId × Value → H) :
    ReturnsInHanded Rows.fnIndexSpanRow.assume Try.checked os f_laws_FnIndexSpan .any (Rows.fnIndexSpanSpec.pre6 enc Try.prog Try.f7 Rows.fnIndexSpanRow.domain false) (Rows.fnIndexSpanSpec.post enc Try.prog Try.f7 false true false false) := by
  refine returnsInHanded_of_change (C := Try.checked) own started (by kernel_rfl) Try.func7
    (ChangeSpec.witness6 (enc := enc) (C := Try.checked) false ⟨#[], #[.slice none 0 0], []⟩ 8 (by kernel_rfl) (by kernel_rfl) (by kernel_rfl) (by kernel_rfl)) ?_
  intro W base args ds gs before hval0 hW hcnd _
  have hval : ∀ (j : Nat) t v, Try.f7.params[j]? = some t → args[j]? = some v → Value.okWide Try.prog W .any base t v := hval0
  refine law_contract (D := 8) (tb := t_bool) (p := pr) pr_ok laid (by rw [Try.params7]; decide +kernel) rfl (by kernel_rfl) bools ?_ hW ?_
  · intro ds hd
    rw [Try.params7] at hd
    match ds, hd with
    | [d0], _ => exact ⟨rfl, rfl, rfl⟩
  · intro q hA
    rw [Try.params7] at hA hval
    obtain ⟨v0, vs0, d0, ds0, p0, q0, hv0, rfl, rfl, h0, g0⟩ := trodAll_cons hA
    obtain ⟨hvs, rfl, rfl⟩ := trodAll_nil g0
    subst hvs
    have hsz : args = #[v0] := by
      apply Array.ext'
      simpa using hv0
    subst hsz
    obtain ⟨x0, hx0, hr0⟩ := arg_slice byteSlice slB bytePos rByte (hval 0 _ v0 rfl rfl) h0
    exact ⟨_, .cons hr0 (.nil), d_FnIndexSpan (Nat.le_refl _) x0 (bytes_of hx0)⟩

theorem FnIndexSpan_holds : Rows.FnIndexSpanSaid :=
  OpenClaim.holds_of_wide 7 Try.f7 rfl rfl rfl rfl rfl rfl rfl ⟨rfl, rfl, rfl, rfl, rfl⟩ rfl rfl rfl rfl rfl (by kernel_rfl) Try.func7 (by kernel_rfl)
    (of_decide_eq_true (by kernel_rfl)) (by unfold Func.isWrapper; first | (rw [if_pos (by decide +kernel)]; kernel_rfl) | (rw [if_neg (by decide +kernel)]; exact ⟨rfl, rfl⟩))
    (fun os started H enc _ => FnIndexSpan_lifted os started H enc)

end Go.Proofs.Ytcpogioihmbbjaa
end
