/-
  The law answers true for every input, with its row and its tied card
-/
import Derived.Test.YtcceojmajfinpaaGreatDoorRowbt
import Derived.Test.YtcceojmajfinpaaGreatDoorRl
import Derived.Test.YtcceojmajfinpaaGreatDoorFnsL
import Derived.Test.YtcceojmajfinpaaGreatDoorTie
import Derived.Test.YtcceojmajfinpaaGreatDoorCards
namespace Go.Proofs.YtcceojmajfinpaaGreatDoor
open Go Go.ChangeShapes Go.WideShapes Go.ChangeAt Go.RowKit Go.Vm Go.Vm.T
theorem Zi {a b : Bool} (h : a = true) (k : b = true) : (a && b) = true := by rw [h, k]; rfl
set_option maxRecDepth 100000 in
theorem Zdk (os : Os) (started : os.Started) (H : Type) (enc : TypeId × Value -> H) :
 ReturnsInHanded {} Tryz.checked os Ycq .any (fun w args => (Rows.fnAskMoreSpec.pre enc Tryz.prog Tryz.f5 [] false w args /\ laidMetH Tryz.prog Zeh w) /\ sizedMet enc Tryz.prog Tryz.f5 (OpenSpec.ofChange Rows.fnAskMoreSpec) false w args)
  (Rows.fnAskMoreSpec.post enc Tryz.prog Tryz.f5 false true false false) := by
 refine returnsInHanded_of_change_and (C := Tryz.checked) (X := fun w _ => laidMetH Tryz.prog Zeh w) (fun _ _ _ hh h => h.of_heap hh) own started (by kernel_rfl) Tryz.func5
  (ChangeSpec.witness_shaped (enc := enc) (C := Tryz.checked) (os := os) (X := fun w _ => laidMetH Tryz.prog Zeh w) false (World.doorLaid Tryz.prog 100 os) #[.slice none 0 0, .slice none 0 0] 8 rfl (World.shaped_of_RefB (by kernel_rfl) (by kernel_rfl)) (by kernel_rfl) (by kernel_rfl) (by kernel_rfl) (Zko os _)) ?_
 intro W base args ds gs before j1 hW _ _ hL _
 have j0 : ∀ (j : Nat) t v, Tryz.f5.params[j]? = some t -> args[j]? = some v -> Value.okWide Tryz.prog W .any base t v := j1
 refine Z9b (D := 17) (tb := Zsj) (p := prC) okC lay (by rw [Tryz.params5]; decide +kernel) rfl (by kernel_rfl) Y5k ?_ hW (Zq6 hL) ?_
 . intro ds hd
   rw [Tryz.params5] at hd
   match ds, hd with
   | [d0, d1], _ => exact ⟨rfl, rfl, rfl⟩
 . intro q hA
   rw [Tryz.params5] at hA j0
   obtain ⟨v0, jb, d0, jd, p0, q0, j2, rfl, rfl, h0, g0⟩ := trodAll_cons hA
   obtain ⟨v1, jc, d1, ja, p1, q1, j6, rfl, rfl, h1, g1⟩ := trodAll_cons g0
   obtain ⟨j4, rfl, rfl⟩ := trodAll_nil g1
   subst j4
   subst j6
   have j9 : args = #[v0, v1] := by
    apply Array.ext'
    simpa using j2
   subst j9
   obtain ⟨x0, j5, j3⟩ := Zbj Zbm slB Zie Y19 (j0 0 _ v0 rfl rfl) h0
   obtain ⟨x1, j7, j8⟩ := Zbj Zbm slB Zie Y19 (j0 1 _ v1 rfl rfl) h1
   exact ⟨_, .cons j3 (.cons j8 (.nil)), @Zpx iC _ (dM _) x0 x1 (Zdp j5) (Zdp j7)⟩
end Go.Proofs.YtcceojmajfinpaaGreatDoor
