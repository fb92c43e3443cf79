/-
  What the functions under the law compute, of marks, columns, conditions
-/
import Derived.Test.YtcceojmajfinpaaGreatDoorFnsA
section
set_option linter.unusedVariables false
set_option linter.unusedSectionVars false
set_option linter.unusedSimpArgs false
namespace Go.Vm.T
variable [Pr0]
theorem upd_upd {α : Type} (f : Nat → α) (k : Nat) (x y : α) : upd (upd f k x) k y = upd f k y := by
  funext i
  simp only [upd_apply]
  split <;> rfl
abbrev intC (x : Int) : List A := [.n x]
theorem lp_eqIntS {D : Nat} (es : List Int) (hl : es.length ≤ big) :
    Ended (loopN (exec ⟨den pr D, dcl pr D⟩ b_laws_eqIntS_0) [0, 1, 5] rounds ⟨upd (upd (upd (fun _ => .bad) 0 (.lit t_int (es.map intC))) 1 (.lit t_int (es.map intC))) 5 (.n (0 : Nat)), fun _ => none, 0, 0⟩) Unit Unit (runI (fun _ _ _ => .inl ()) 0 () es)
      (fun m o => ∃ σ', o = .exit 0 σ') (fun _ o => False) := by
  refine loop_all es (fun i (_ : Unit) => ⟨upd (upd (upd (fun _ => .bad) 0 (.lit t_int (es.map intC))) 1 (.lit t_int (es.map intC))) 5 (.n i), fun _ => none, 0, 0⟩) _ (fun _ _ => True) _ _ () trivial hl (fun i m e K hc hlt hi => ?_) (fun m K _ => ?_)
  · have hr := map_at (f := intC) hc
    have hw := wrap_nat (n := i) (by unfold big at hl; omega)
    simp only [loopN, e_laws_eqIntS_0, B_laws_eqIntS_0, go_sem, Nat.reduceEqDiff, Nat.reduceAdd, reduceIte, reduceCtorEq, Nat.reduceLeDiff, Nat.reduceLT, List.length_map, hr, hlt, hw]
  · have hi : ¬ es.length < es.length := by omega
    simp only [loopN, e_laws_eqIntS_0, B_laws_eqIntS_0, go_sem, Nat.reduceEqDiff, Nat.reduceAdd, reduceIte, reduceCtorEq, Nat.reduceLeDiff, Nat.reduceLT, List.length_map, hi]
    exact ⟨_, rfl, _, rfl⟩
theorem d_eqIntS {D : Nat} (hD : 1 ≤ D) (es : List Int) (hl : es.length ≤ big) : den pr D f_laws_eqIntS [.lit t_int (es.map intC), .lit t_int (es.map intC)] = some [.q true] := by
  obtain ⟨D, rfl, hd⟩ := pred_of hD
  rw [u_laws_eqIntS]
  obtain ⟨out, lo, lp⟩ := lp_eqIntS (D := D) es hl
  rw [run_unit] at lp
  obtain ⟨σ', rfl⟩ := lp
  rw [show ((0 : Nat) : Int) = 0 from rfl] at lo
  simp only [c_laws_eqIntS, go_sem, Nat.reduceEqDiff, Nat.reduceAdd, reduceIte, reduceCtorEq, Nat.reduceLeDiff, Nat.reduceLT, List.length_map, lo]
end Go.Vm.T
end

section
set_option linter.unusedVariables false
set_option linter.unusedSectionVars false
set_option linter.unusedSimpArgs false
namespace Go.Vm.T
variable [Pr0]
theorem set_set {α : Type} (l : List α) (i : Nat) (a b : α) : (l.set i a).set i b = l.set i b := List.set_set ..
end Go.Vm.T
end
