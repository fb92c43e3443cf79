/-
  The law answers true for every input, with its row and its tied card
-/
import Derived.Test.YtcceojmajfinpaaGreatDoorRowbt
import Derived.Test.YtcceojmajfinpaaGreatDoorRl
import Derived.Test.YtcceojmajfinpaaGreatDoorFnsL
import Derived.Test.YtcceojmajfinpaaGreatDoorTie
import Derived.Test.YtcceojmajfinpaaGreatDoorCards
namespace Go.Proofs.YtcceojmajfinpaaGreatDoor
open Go Go.ChangeShapes Go.WideShapes Go.ChangeAt Go.RowKit Go.Vm Go.Vm.T
theorem Wh {a b : Bool} (h : a = true) (k : b = true) : (a && b) = true := by rw [h, k]; rfl
set_option maxRecDepth 100000 in
theorem Zdd (os : Os) (started : os.Started) (H : Type) (enc : TypeId × Value -> H) :
 ReturnsInHanded {} Tryz.checked os Yan .any (fun w args => (Rows.fnIndexOfSpec.pre enc Tryz.prog Tryz.f13 [] false w args /\ laidMetH Tryz.prog Zuo w) /\ sizedMet enc Tryz.prog Tryz.f13 (OpenSpec.ofChange Rows.fnIndexOfSpec) false w args)
  (Rows.fnIndexOfSpec.post enc Tryz.prog Tryz.f13 false true false false) := by
 refine returnsInHanded_of_change_and (C := Tryz.checked) (X := fun w _ => laidMetH Tryz.prog Zuo w) (fun _ _ _ hh h => h.of_heap hh) own started (by kernel_rfl) Tryz.func13
  (ChangeSpec.witness_shaped (enc := enc) (C := Tryz.checked) (os := os) (X := fun w _ => laidMetH Tryz.prog Zuo w) false (World.doorLaid Tryz.prog 100 os) #[.slice none 0 0] 8 rfl (World.shaped_of_RefB (by kernel_rfl) (by kernel_rfl)) (by kernel_rfl) (by kernel_rfl) (by kernel_rfl) (Y1r os _)) ?_
 intro W base args ds gs before j1 hW _ _ hL _
 have j0 : ∀ (j : Nat) t v, Tryz.f13.params[j]? = some t -> args[j]? = some v -> Value.okWide Tryz.prog W .any base t v := j1
 refine Zmm (D := 17) (tb := Y2z) (p := prC) okC lay (by rw [Tryz.params13]; decide +kernel) rfl (by kernel_rfl) Yb2 ?_ hW (Y4t hL) ?_
 . intro ds hd
   rw [Tryz.params13] at hd
   match ds, hd with
   | [d0], _ => exact ⟨rfl, rfl, rfl⟩
 . intro q hA
   rw [Tryz.params13] at hA j0
   obtain ⟨v0, j7, d0, j8, p0, q0, j2, rfl, rfl, h0, g0⟩ := trodAll_cons hA
   obtain ⟨j4, rfl, rfl⟩ := trodAll_nil g0
   subst j4
   have j6 : args = #[v0] := by
    apply Array.ext'
    simpa using j2
   subst j6
   obtain ⟨x0, j5, j3⟩ := Zvy Zwi slB Y46 Ybj (j0 0 _ v0 rfl rfl) h0
   exact ⟨_, .cons j3 (.nil), @Zp7 iC _ (dO _) x0 (Y1v j5)⟩
end Go.Proofs.YtcceojmajfinpaaGreatDoor
