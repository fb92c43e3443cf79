/-
  The laws FnIndexOff and FnIndexPut answer true for every input
-/
import Derived.Test.YtjiklhnijhiphaaRdB
import Derived.Test.YtjiklhnijhiphaaFnsH
section
set_option linter.unusedVariables false
set_option linter.unusedSimpArgs false
namespace Go.Proofs.Ytjiklhnijhiphaa
open Go.ChangeShapes Go.WideShapes Go.ChangeAt Go.RowKit Go.Vm Go.Vm.T

set_option maxRecDepth 100000 in
theorem FnIndexOff_lifted (os : Os) (started : os.Started) (H : Type) (enc : TypeId × Value → H) :
    ReturnsInHanded Rows.fnIndexOffRow.assume Try.checked os f_laws_FnIndexOff .any (Rows.fnIndexOffSpec.pre6 enc Try.prog Try.f13 Rows.fnIndexOffRow.domain false) (Rows.fnIndexOffSpec.post enc Try.prog Try.f13 false true false false) := by
  refine returnsInHanded_of_change (C := Try.checked) own started (by kernel_rfl) Try.func13
    (ChangeSpec.witness6 (enc := enc) (C := Try.checked) false ⟨#[], #[.slice none 0 0], []⟩ 8 (by kernel_rfl) (by kernel_rfl) (by kernel_rfl) (by kernel_rfl)) ?_
  intro W base args ds gs before hval0 hW hcnd _
  have hval : ∀ (j : Nat) t v, Try.f13.params[j]? = some t → args[j]? = some v → Value.okWide Try.prog W .any base t v := hval0
  refine law_contract (D := 8) (tb := t_bool) (p := pr) pr_ok laid (by rw [Try.params13]; decide +kernel) rfl (by kernel_rfl) bools ?_ hW ?_
  · intro ds hd
    rw [Try.params13] at hd
    match ds, hd with
    | [d0], _ => exact ⟨rfl, rfl, rfl⟩
  · intro q hA
    rw [Try.params13] at hA hval
    obtain ⟨v0, vs0, d0, ds0, p0, q0, hv0, rfl, rfl, h0, g0⟩ := trodAll_cons hA
    obtain ⟨hvs, rfl, rfl⟩ := trodAll_nil g0
    subst hvs
    have hsz : args = #[v0] := by
      apply Array.ext'
      simpa using hv0
    subst hsz
    obtain ⟨x0, hx0, hr0⟩ := arg_slice byteSlice slB bytePos rByte (hval 0 _ v0 rfl rfl) h0
    exact ⟨_, .cons hr0 (.nil), d_FnIndexOff (Nat.le_refl _) x0 (bytes_of hx0)⟩

theorem FnIndexOff_holds : Rows.FnIndexOffSaid :=
  OpenClaim.holds_of_wide 13 Try.f13 rfl rfl rfl rfl rfl rfl rfl ⟨rfl, rfl, rfl, rfl, rfl⟩ rfl rfl rfl rfl rfl (by kernel_rfl) Try.func13 (by kernel_rfl)
    (of_decide_eq_true (by kernel_rfl)) (by unfold Func.isWrapper; first | (rw [if_pos (by decide +kernel)]; kernel_rfl) | (rw [if_neg (by decide +kernel)]; exact ⟨rfl, rfl⟩))
    (fun os started H enc _ => FnIndexOff_lifted os started H enc)

set_option maxRecDepth 100000 in
theorem FnIndexPut_lifted (os : Os) (started : os.Started) (H : Type) (enc : TypeId × Value → H) :
    ReturnsInHanded Rows.fnIndexPutRow.assume Try.checked os f_laws_FnIndexPut .any (Rows.fnIndexPutSpec.pre6 enc Try.prog Try.f14 Rows.fnIndexPutRow.domain false) (Rows.fnIndexPutSpec.post enc Try.prog Try.f14 false true false false) := by
  refine returnsInHanded_of_change (C := Try.checked) own started (by kernel_rfl) Try.func14
    (ChangeSpec.witness6 (enc := enc) (C := Try.checked) false ⟨#[], #[.slice none 0 0], []⟩ 8 (by kernel_rfl) (by kernel_rfl) (by kernel_rfl) (by kernel_rfl)) ?_
  intro W base args ds gs before hval0 hW hcnd _
  have hval : ∀ (j : Nat) t v, Try.f14.params[j]? = some t → args[j]? = some v → Value.okWide Try.prog W .any base t v := hval0
  refine law_contract (D := 8) (tb := t_bool) (p := pr) pr_ok laid (by rw [Try.params14]; decide +kernel) rfl (by kernel_rfl) bools ?_ hW ?_
  · intro ds hd
    rw [Try.params14] at hd
    match ds, hd with
    | [d0], _ => exact ⟨rfl, rfl, rfl⟩
  · intro q hA
    rw [Try.params14] at hA hval
    obtain ⟨v0, vs0, d0, ds0, p0, q0, hv0, rfl, rfl, h0, g0⟩ := trodAll_cons hA
    obtain ⟨hvs, rfl, rfl⟩ := trodAll_nil g0
    subst hvs
    have hsz : args = #[v0] := by
      apply Array.ext'
      simpa using hv0
    subst hsz
    obtain ⟨x0, hx0, hr0⟩ := arg_slice byteSlice slB bytePos rByte (hval 0 _ v0 rfl rfl) h0
    exact ⟨_, .cons hr0 (.nil), d_FnIndexPut (Nat.le_refl _) x0 (bytes_of hx0)⟩

theorem FnIndexPut_holds : Rows.FnIndexPutSaid :=
  OpenClaim.holds_of_wide 14 Try.f14 rfl rfl rfl rfl rfl rfl rfl ⟨rfl, rfl, rfl, rfl, rfl⟩ rfl rfl rfl rfl rfl (by kernel_rfl) Try.func14 (by kernel_rfl)
    (of_decide_eq_true (by kernel_rfl)) (by unfold Func.isWrapper; first | (rw [if_pos (by decide +kernel)]; kernel_rfl) | (rw [if_neg (by decide +kernel)]; exact ⟨rfl, rfl⟩))
    (fun os started H enc _ => FnIndexPut_lifted os started H enc)

end Go.Proofs.Ytjiklhnijhiphaa
end
