/-
  The law answers true for every input, with its row and its tied card
-/
import Derived.Test.YtcceojmajfinpaaGreatDoorRd
import Derived.Test.YtcceojmajfinpaaGreatDoorRl
import Derived.Test.YtcceojmajfinpaaGreatDoorFnsL
import Derived.Test.YtcceojmajfinpaaGreatDoorTie
import Derived.Test.YtcceojmajfinpaaGreatDoorCards
section
set_option linter.unusedVariables false
set_option linter.unusedSectionVars false
set_option linter.unusedSimpArgs false
namespace Go.Proofs.YtcceojmajfinpaaGreatDoor
open Go Go.ChangeShapes Go.WideShapes Go.ChangeAt Go.RowKit Go.Vm Go.Vm.T
theorem Xu {a b : Bool} (h : a = true) (k : b = true) : (a && b) = true := by rw [h, k]; rfl
set_option maxRecDepth 100000 in
theorem Z5a (os : Os) (started : os.Started) (H : Type) (enc : TypeId × Value → H) :
 ReturnsInHanded {} Tryz.checked os f_q0 .any (fun w args => (Rows.fnExactIndexOfSpec.pre enc Tryz.prog Tryz.f12 [] false w args ∧ laidMetH Tryz.prog Zrn w) ∧ sizedMet enc Tryz.prog Tryz.f12 (OpenSpec.ofChange Rows.fnExactIndexOfSpec) false w args)
  (Rows.fnExactIndexOfSpec.post enc Tryz.prog Tryz.f12 false true false false) := by
 refine returnsInHanded_of_change_and (C := Tryz.checked) (X := fun w _ => laidMetH Tryz.prog Zrn w) (fun _ _ _ hh h => h.of_heap hh) own started (by kernel_rfl) Tryz.func12
  (ChangeSpec.witness_shaped (enc := enc) (C := Tryz.checked) (os := os) (X := fun w _ => laidMetH Tryz.prog Zrn w) false (World.doorLaid Tryz.prog 100 os) #[.agg #[.slice none 0 0, .slice none 0 0, .slice none 0 0, .int .i64 0], .string ⟨#[]⟩] 8 rfl (World.shaped_of_RefB (by kernel_rfl) (by kernel_rfl)) (by kernel_rfl) (by kernel_rfl) (by kernel_rfl) (Zxw os _)) ?_
 intro W base args ds gs before hval0 hW _ _ hL _
 have hval : ∀ (j : Nat) t v, Tryz.f12.params[j]? = some t → args[j]? = some v → Value.okWide Tryz.prog W .any base t v := hval0
 refine Zjq (D := 13) (tb := Ztu) (p := prC) okC lay (by rw [Tryz.params12]; decide +kernel) rfl (by kernel_rfl) Y4j ?_ hW (Zzf hL) ?_
 · intro ds hd
   rw [Tryz.params12] at hd
   match ds, hd with
   | [d0, d1], _ => exact ⟨rfl, rfl, rfl⟩
 · intro q hA
   rw [Tryz.params12] at hA hval
   obtain ⟨v0, vs0, d0, ds0, p0, q0, hv0, rfl, rfl, h0, g0⟩ := trodAll_cons hA
   obtain ⟨v1, vs1, d1, ds1, p1, q1, hv1, rfl, rfl, h1, g1⟩ := trodAll_cons g0
   obtain ⟨hvs, rfl, rfl⟩ := trodAll_nil g1
   subst hvs
   subst hv1
   have hsz : args = #[v0, v1] := by
    apply Array.ext'
    simpa using hv0
   subst hsz
   obtain ⟨x0, hx0, hr0⟩ := Zpe Zkq rTab (hval 0 _ v0 rfl rfl) h0
   obtain ⟨x1, hx1, hr1⟩ := Y0k Y03 (hval 1 _ v1 rfl rfl) h1
   exact ⟨_, .cons hr0 (.cons hr1 (.nil)), @Zan iC _ (Nat.le_refl _) x0 x1 (Y0x hx0) hx1⟩
end Go.Proofs.YtcceojmajfinpaaGreatDoor
end
