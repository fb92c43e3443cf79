/-
  The law FnExactIndexPut answers true for every input
-/
import Derived.Test.YtjiklhnijhiphaaRd
import Derived.Test.YtjiklhnijhiphaaFnsG
section
set_option linter.unusedVariables false
set_option linter.unusedSimpArgs false
namespace Go.Proofs.Ytjiklhnijhiphaa
open Go.ChangeShapes Go.WideShapes Go.ChangeAt Go.RowKit Go.Vm Go.Vm.T

set_option maxRecDepth 100000 in
theorem FnExactIndexPut_lifted (os : Os) (started : os.Started) (H : Type) (enc : TypeId × Value → H) :
    ReturnsInHanded Rows.fnExactIndexPutRow.assume Try.checked os f_laws_FnExactIndexPut .any (Rows.fnExactIndexPutSpec.pre6 enc Try.prog Try.f12 Rows.fnExactIndexPutRow.domain false) (Rows.fnExactIndexPutSpec.post enc Try.prog Try.f12 false true false false) := by
  refine returnsInHanded_of_change (C := Try.checked) own started (by kernel_rfl) Try.func12
    (ChangeSpec.witness6 (enc := enc) (C := Try.checked) false ⟨#[], #[.slice none 0 0, .agg #[.int .i64 0, .int .i64 0, .string ⟨#[]⟩, .int .i64 0]], []⟩ 8 (by kernel_rfl) (by kernel_rfl) (by kernel_rfl) (by kernel_rfl)) ?_
  intro W base args ds gs before hval0 hW hcnd _
  have hval : ∀ (j : Nat) t v, Try.f12.params[j]? = some t → args[j]? = some v → Value.okWide Try.prog W .any base t v := hval0
  refine law_contract (D := 6) (tb := t_bool) (p := pr) pr_ok laid (by rw [Try.params12]; decide +kernel) rfl (by kernel_rfl) bools ?_ hW ?_
  · intro ds hd
    rw [Try.params12] at hd
    match ds, hd with
    | [d0, d1], _ => exact ⟨rfl, rfl, rfl⟩
  · intro q hA
    rw [Try.params12] at hA hval
    obtain ⟨v0, vs0, d0, ds0, p0, q0, hv0, rfl, rfl, h0, g0⟩ := trodAll_cons hA
    obtain ⟨v1, vs1, d1, ds1, p1, q1, hv1, rfl, rfl, h1, g1⟩ := trodAll_cons g0
    obtain ⟨hvs, rfl, rfl⟩ := trodAll_nil g1
    subst hvs
    subst hv1
    have hsz : args = #[v0, v1] := by
      apply Array.ext'
      simpa using hv0
    subst hsz
    obtain ⟨x0, hx0, hr0⟩ := arg_slice entSlice sl1 entPos rEnt (hval 0 _ v0 rfl rfl) h0
    obtain ⟨x1, hx1, hr1⟩ := arg_struct entStruct rEnt (hval 1 _ v1 rfl rfl) h1
    exact ⟨_, .cons hr0 (.cons hr1 (.nil)), d_FnExactIndexPut (Nat.le_refl _) x0 x1 (fit_of hx0) hx1.1.2.2⟩

theorem FnExactIndexPut_holds : Rows.FnExactIndexPutSaid :=
  OpenClaim.holds_of_wide 12 Try.f12 rfl rfl rfl rfl rfl rfl rfl ⟨rfl, rfl, rfl, rfl, rfl⟩ rfl rfl rfl rfl rfl (by kernel_rfl) Try.func12 (by kernel_rfl)
    (of_decide_eq_true (by kernel_rfl)) (by unfold Func.isWrapper; first | (rw [if_pos (by decide +kernel)]; kernel_rfl) | (rw [if_neg (by decide +kernel)]; exact ⟨rfl, rfl⟩))
    (fun os started H enc _ => FnExactIndexPut_lifted os started H enc)

end Go.Proofs.Ytjiklhnijhiphaa
end
