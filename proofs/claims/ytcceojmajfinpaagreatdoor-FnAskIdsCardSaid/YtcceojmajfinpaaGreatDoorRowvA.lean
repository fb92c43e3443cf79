/-
  The law answers true for every input, with its row and its tied card
-/
import Derived.Test.YtcceojmajfinpaaGreatDoorRowbt
import Derived.Test.YtcceojmajfinpaaGreatDoorRl
import Derived.Test.YtcceojmajfinpaaGreatDoorFnsL
import Derived.Test.YtcceojmajfinpaaGreatDoorTie
import Derived.Test.YtcceojmajfinpaaGreatDoorCards
namespace Go.Proofs.YtcceojmajfinpaaGreatDoor
open Go Go.ChangeShapes Go.WideShapes Go.ChangeAt Go.RowKit Go.Vm Go.Vm.T
theorem Zi {a b : Bool} (h : a = true) (k : b = true) : (a && b) = true := by rw [h, k]; rfl
set_option maxRecDepth 100000 in
theorem Zf0 (os : Os) (started : os.Started) (H : Type) (enc : TypeId × Value -> H) :
 ReturnsInHanded {} Tryz.checked os Ycp .any (fun w args => (Rows.fnAskIdsSpec.pre enc Tryz.prog Tryz.f7 [] false w args /\ laidMetH Tryz.prog Zeh w) /\ sizedMet enc Tryz.prog Tryz.f7 (OpenSpec.ofChange Rows.fnAskIdsSpec) false w args)
  (Rows.fnAskIdsSpec.post enc Tryz.prog Tryz.f7 false true false false) := by
 refine returnsInHanded_of_change_and (C := Tryz.checked) (X := fun w _ => laidMetH Tryz.prog Zeh w) (fun _ _ _ hh h => h.of_heap hh) own started (by kernel_rfl) Tryz.func7
  (ChangeSpec.witness_shaped (enc := enc) (C := Tryz.checked) (os := os) (X := fun w _ => laidMetH Tryz.prog Zeh w) false (World.doorLaid Tryz.prog 100 os) #[.slice none 0 0] 8 rfl (World.shaped_of_RefB (by kernel_rfl) (by kernel_rfl)) (by kernel_rfl) (by kernel_rfl) (by kernel_rfl) (Zko os _)) ?_
 intro W base args ds gs before j1 hW _ _ hL _
 have j0 : ∀ (j : Nat) t v, Tryz.f7.params[j]? = some t -> args[j]? = some v -> Value.okWide Tryz.prog W .any base t v := j1
 refine Z9b (D := 17) (tb := Zsj) (p := prC) okC lay (by rw [Tryz.params7]; decide +kernel) rfl (by kernel_rfl) Y5k ?_ hW (Zq6 hL) ?_
 . intro ds hd
   rw [Tryz.params7] at hd
   match ds, hd with
   | [d0], _ => exact ⟨rfl, rfl, rfl⟩
 . intro q hA
   rw [Tryz.params7] at hA j0
   obtain ⟨v0, j7, d0, j8, p0, q0, j2, rfl, rfl, h0, g0⟩ := trodAll_cons hA
   obtain ⟨j4, rfl, rfl⟩ := trodAll_nil g0
   subst j4
   have j6 : args = #[v0] := by
    apply Array.ext'
    simpa using j2
   subst j6
   obtain ⟨x0, j5, j3⟩ := Zbj Zbm slB Zie Y19 (j0 0 _ v0 rfl rfl) h0
   exact ⟨_, .cons j3 (.nil), @Zup iC _ (dM _) x0 (Zdp j5)⟩
end Go.Proofs.YtcceojmajfinpaaGreatDoor
