/-
  The laws FnExactIndexOnce, FnExactIndexFind and FnExactIndexSpan answer true for every input
-/
import Derived.Test.YtcpogioihmbbjaaRd
import Derived.Test.YtcpogioihmbbjaaFnsB
section
set_option linter.unusedVariables false
set_option linter.unusedSimpArgs false
namespace Go.Proofs.Ytcpogioihmbbjaa
open Go.ChangeShapes Go.WideShapes Go.ChangeAt Go.RowKit Go.Vm Go.Vm.T

set_option maxRecDepth 100000 in
theorem FnExactIndexOnce_lifted (os : Os) (started : os.Started) (H : Type) (enc : TypeId × Value → H) :
    ReturnsInHanded Rows.fnExactIndexOnceRow.assume Try.checked os f_laws_FnExactIndexOnce .any (Rows.fnExactIndexOnceSpec.pre6 enc Try.prog Try.f4 Rows.fnExactIndexOnceRow.domain false) (Rows.fnExactIndexOnceSpec.post enc Try.prog Try.f4 false true false false) := by
  refine returnsInHanded_of_change (C := Try.checked) own started (by kernel_rfl) Try.func4
    (ChangeSpec.witness6 (enc := enc) (C := Try.checked) false ⟨#[], #[.slice none 0 0], []⟩ 8 (by kernel_rfl) (by kernel_rfl) (by kernel_rfl) (by kernel_rfl)) ?_
  intro W base args ds gs before hval0 hW hcnd _
  have hval : ∀ (j : Nat) t v, Try.f4.params[j]? = some t → args[j]? = some v → Value.okWide Try.prog W .any base t v := hval0
  refine law_contract (D := 6) (tb := t_bool) (p := pr) pr_ok laid (by rw [Try.params4]; decide +kernel) rfl (by kernel_rfl) bools ?_ hW ?_
  · intro ds hd
    rw [Try.params4] at hd
    match ds, hd with
    | [d0], _ => exact ⟨rfl, rfl, rfl⟩
  · intro q hA
    rw [Try.params4] at hA hval
    obtain ⟨v0, vs0, d0, ds0, p0, q0, hv0, rfl, rfl, h0, g0⟩ := trodAll_cons hA
    obtain ⟨hvs, rfl, rfl⟩ := trodAll_nil g0
    subst hvs
    have hsz : args = #[v0] := by
      apply Array.ext'
      simpa using hv0
    subst hsz
    obtain ⟨x0, hx0, hr0⟩ := arg_slice entSlice sl1 entPos rEnt (hval 0 _ v0 rfl rfl) h0
    exact ⟨_, .cons hr0 (.nil), d_FnExactIndexOnce (Nat.le_refl _) x0 (fit_of hx0)⟩

theorem FnExactIndexOnce_holds : Rows.FnExactIndexOnceSaid :=
  OpenClaim.holds_of_wide 4 Try.f4 rfl rfl rfl rfl rfl rfl rfl ⟨rfl, rfl, rfl, rfl, rfl⟩ rfl rfl rfl rfl rfl (by kernel_rfl) Try.func4 (by kernel_rfl)
    (of_decide_eq_true (by kernel_rfl)) (by unfold Func.isWrapper; first | (rw [if_pos (by decide +kernel)]; kernel_rfl) | (rw [if_neg (by decide +kernel)]; exact ⟨rfl, rfl⟩))
    (fun os started H enc _ => FnExactIndexOnce_lifted os started H enc)

set_option maxRecDepth 100000 in
theorem FnExactIndexFind_lifted (os : Os) (started : os.Started) (H : Type) (enc : TypeId × Value → H) :
    ReturnsInHanded Rows.fnExactIndexFindRow.assume Try.checked os f_laws_FnExactIndexFind .any (Rows.fnExactIndexFindSpec.pre6 enc Try.prog Try.f9 Rows.fnExactIndexFindRow.domain false) (Rows.fnExactIndexFindSpec.post enc Try.prog Try.f9 false true false false) := by
  refine returnsInHanded_of_change (C := Try.checked) own started (by kernel_rfl) Try.func9
    (ChangeSpec.witness6 (enc := enc) (C := Try.checked) false ⟨#[], #[.slice none 0 0, .agg #[.int .i64 0, .int .i64 0, .string ⟨#[]⟩]], []⟩ 8 (by kernel_rfl) (by kernel_rfl) (by kernel_rfl) (by kernel_rfl)) ?_
  intro W base args ds gs before hval0 hW hcnd _
  have hval : ∀ (j : Nat) t v, Try.f9.params[j]? = some t → args[j]? = some v → Value.okWide Try.prog W .any base t v := hval0
  refine law_contract (D := 7) (tb := t_bool) (p := pr) pr_ok laid (by rw [Try.params9]; decide +kernel) rfl (by kernel_rfl) bools ?_ hW ?_
  · intro ds hd
    rw [Try.params9] at hd
    match ds, hd with
    | [d0, d1], _ => exact ⟨rfl, rfl, rfl⟩
  · intro q hA
    rw [Try.params9] at hA hval
    obtain ⟨v0, vs0, d0, ds0, p0, q0, hv0, rfl, rfl, h0, g0⟩ := trodAll_cons hA
    obtain ⟨v1, vs1, d1, ds1, p1, q1, hv1, rfl, rfl, h1, g1⟩ := trodAll_cons g0
    obtain ⟨hvs, rfl, rfl⟩ := trodAll_nil g1
    subst hvs
    subst hv1
    have hsz : args = #[v0, v1] := by
      apply Array.ext'
      simpa using hv0
    subst hsz
    obtain ⟨x0, hx0, hr0⟩ := arg_slice entSlice sl1 entPos rEnt (hval 0 _ v0 rfl rfl) h0
    obtain ⟨x1, hx1, hr1⟩ := arg_struct valStruct rVal (hval 1 _ v1 rfl rfl) h1
    exact ⟨_, .cons hr0 (.cons hr1 (.nil)), d_FnExactIndexFind (Nat.le_refl _) x0 x1 (fit_of hx0) hx1.2.2⟩

theorem FnExactIndexFind_holds : Rows.FnExactIndexFindSaid :=
  OpenClaim.holds_of_wide 9 Try.f9 rfl rfl rfl rfl rfl rfl rfl ⟨rfl, rfl, rfl, rfl, rfl⟩ rfl rfl rfl rfl rfl (by kernel_rfl) Try.func9 (by kernel_rfl)
    (of_decide_eq_true (by kernel_rfl)) (by unfold Func.isWrapper; first | (rw [if_pos (by decide +kernel)]; kernel_rfl) | (rw [if_neg (by decide +kernel)]; exact ⟨rfl, rfl⟩))
    (fun os started H enc _ => FnExactIndexFind_lifted os started H enc)

set_option maxRecDepth 100000 in
theorem FnExactIndexSpan_lifted (os : Os) (started : os.Started) (H : Type) (enc : TypeId × Value → H) :
    ReturnsInHanded Rows.fnExactIndexSpanRow.assume Try.checked os f_laws_FnExactIndexSpan .any (Rows.fnExactIndexSpanSpec.pre6 enc Try.prog Try.f10 Rows.fnExactIndexSpanRow.domain false) (Rows.fnExactIndexSpanSpec.post enc Try.prog Try.f10 false true false false) := by
  refine returnsInHanded_of_change (C := Try.checked) own started (by kernel_rfl) Try.func10
    (ChangeSpec.witness6 (enc := enc) (C := Try.checked) false ⟨#[], #[.slice none 0 0, .agg #[.int .i64 0, .int .i64 0, .string ⟨#[]⟩], .agg #[.int .i64 0, .int .i64 0, .string ⟨#[]⟩]], []⟩ 8 (by kernel_rfl) (by kernel_rfl) (by kernel_rfl) (by kernel_rfl)) ?_
  intro W base args ds gs before hval0 hW hcnd _
  have hval : ∀ (j : Nat) t v, Try.f10.params[j]? = some t → args[j]? = some v → Value.okWide Try.prog W .any base t v := hval0
  refine law_contract (D := 7) (tb := t_bool) (p := pr) pr_ok laid (by rw [Try.params10]; decide +kernel) rfl (by kernel_rfl) bools ?_ hW ?_
  · intro ds hd
    rw [Try.params10] at hd
    match ds, hd with
    | [d0, d1, d2], _ => exact ⟨rfl, rfl, rfl⟩
  · intro q hA
    rw [Try.params10] at hA hval
    obtain ⟨v0, vs0, d0, ds0, p0, q0, hv0, rfl, rfl, h0, g0⟩ := trodAll_cons hA
    obtain ⟨v1, vs1, d1, ds1, p1, q1, hv1, rfl, rfl, h1, g1⟩ := trodAll_cons g0
    obtain ⟨v2, vs2, d2, ds2, p2, q2, hv2, rfl, rfl, h2, g2⟩ := trodAll_cons g1
    obtain ⟨hvs, rfl, rfl⟩ := trodAll_nil g2
    subst hvs
    subst hv2
    subst hv1
    have hsz : args = #[v0, v1, v2] := by
      apply Array.ext'
      simpa using hv0
    subst hsz
    obtain ⟨x0, hx0, hr0⟩ := arg_slice entSlice sl1 entPos rEnt (hval 0 _ v0 rfl rfl) h0
    obtain ⟨x1, hx1, hr1⟩ := arg_struct valStruct rVal (hval 1 _ v1 rfl rfl) h1
    obtain ⟨x2, hx2, hr2⟩ := arg_struct valStruct rVal (hval 2 _ v2 rfl rfl) h2
    exact ⟨_, .cons hr0 (.cons hr1 (.cons hr2 (.nil))), d_FnExactIndexSpan (Nat.le_refl _) x0 x1 x2 (fit_of hx0) hx1.2.2 hx2.2.2⟩

theorem FnExactIndexSpan_holds : Rows.FnExactIndexSpanSaid :=
  OpenClaim.holds_of_wide 10 Try.f10 rfl rfl rfl rfl rfl rfl rfl ⟨rfl, rfl, rfl, rfl, rfl⟩ rfl rfl rfl rfl rfl (by kernel_rfl) Try.func10 (by kernel_rfl)
    (of_decide_eq_true (by kernel_rfl)) (by unfold Func.isWrapper; first | (rw [if_pos (by decide +kernel)]; kernel_rfl) | (rw [if_neg (by decide +kernel)]; exact ⟨rfl, rfl⟩))
    (fun os started H enc _ => FnExactIndexSpan_lifted os started H enc)

end Go.Proofs.Ytcpogioihmbbjaa
end
