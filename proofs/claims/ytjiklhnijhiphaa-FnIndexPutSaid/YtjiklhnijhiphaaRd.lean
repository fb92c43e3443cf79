/-
  Readers of arguments
-/
import Derived.Test.YtjiklhnijhiphaaOk
import Derived.Test.YtjiklhnijhiphaaFns
import Derived.Test.YtjiklhnijhiphaaVmC
import Derived.Test.YtjiklhnijhiphaaRows
section
set_option linter.unusedVariables false
set_option linter.unusedSimpArgs false
namespace Go.Vm

theorem RdF.cons' {P : Program} {f : Field} {fs : List Field} {n m : Nat} {t : TypeId} {α β : Type} {enc : α → List A} {ok : α → Prop} {enc' : β → List A} {ok' : β → Prop} (hf : f.type = t) (ho : f.offset = n) (hm : n + P.cellsOf t = m) (r : Rdr P t enc ok) (rs : RdF P fs m β enc' ok') :
    RdF P (f :: fs) n (α × β) (fun x => enc x.1 ++ enc' x.2) (fun x => ok x.1 ∧ ok' x.2) := by
  subst hf
  subst hm
  exact .cons ho r rs
def fldOf (P : Program) (t i : Nat) : Field :=
  match P.underlying t with
  | some (.struct fs) => fs.getD i default
  | _ => default

namespace T
open Go.Proofs
abbrev i64R (n : Int) : Prop := IntKind.i64.min ≤ n ∧ n ≤ IntKind.i64.max
theorem rInt : Rdr Try.prog t_int (fun n : Int => [.n n]) i64R := .int (by kernel_rfl) (by kernel_rfl)
theorem rStr : Rdr Try.prog t_string (fun s : ByteArray => [.s s]) (fun s => s.size ≤ maxLen) := .str (by kernel_rfl) (by kernel_rfl)
abbrev okVal (v : Val) : Prop := i64R v.k ∧ i64R v.n ∧ v.t.size ≤ maxLen
theorem rVal : Rdr Try.prog t_laws_Val Val.c okVal :=
  .iso (.struct (fs := #[fldOf Try.prog t_laws_Val 0, fldOf Try.prog t_laws_Val 1, fldOf Try.prog t_laws_Val 2]) (by kernel_rfl)
    (.cons' (m := 1) (by kernel_rfl) (by kernel_rfl) (by kernel_rfl) rInt (.cons' (m := 2) (by kernel_rfl) (by kernel_rfl) (by kernel_rfl) rInt (.cons' (m := 3) (by kernel_rfl) (by kernel_rfl) (by kernel_rfl) rStr .nil)))
    (fun y => by kernel_rfl)) (fun x => (⟨x.1, x.2.1, x.2.2.1⟩ : Val)) (fun x => rfl) (fun x h => ⟨h.1, h.2.1, h.2.2.1⟩) (fun y => by kernel_rfl) (fun y => rfl)
abbrev okEnt (e : Ent) : Prop := okVal e.v ∧ i64R e.id
theorem rEnt : Rdr Try.prog t_laws_Entry Ent.c okEnt :=
  .iso (.struct (fs := #[fldOf Try.prog t_laws_Entry 0, fldOf Try.prog t_laws_Entry 1]) (by kernel_rfl)
    (.cons' (m := 3) (by kernel_rfl) (by kernel_rfl) (by kernel_rfl) rVal (.cons' (m := 4) (by kernel_rfl) (by kernel_rfl) (by kernel_rfl) rInt .nil))
    (fun y => by kernel_rfl)) (fun x => (⟨x.1, x.2.1⟩ : Ent)) (fun x => rfl) (fun x h => ⟨h.1, h.2.1⟩) (fun y => by kernel_rfl) (fun y => rfl)
end T
end Go.Vm
end

section
set_option linter.unusedVariables false
set_option linter.unusedSimpArgs false
namespace Go.Proofs.Ytjiklhnijhiphaa
open Go.ChangeShapes Go.WideShapes Go.ChangeAt Go.RowKit Go.Vm Go.Vm.T
theorem own : ownKnob Try.prog.godebug = none := by kernel_rfl
theorem laid : laidOutB Try.prog = true := by kernel_rfl
theorem bools : Try.prog.underlying t_bool = some .bool := by kernel_rfl
theorem entSlice : Try.prog.underlying t_S_laws_Entry = some (.slice t_laws_Entry) := by kernel_rfl
theorem sl1 : Try.prog.cellsOf t_S_laws_Entry = 1 := by kernel_rfl
theorem entPos : 0 < Try.prog.cellsOf t_laws_Entry := by decide +kernel
theorem fit_of {xs : List Ent} (h : xs.length ≤ maxLen ∧ ∀ x ∈ xs, okEnt x) : Fit xs := ⟨h.1, fun e he => (h.2 e he).1.2.2⟩
theorem valStruct : Try.prog.underlying t_laws_Val = some (.struct #[fldOf Try.prog t_laws_Val 0, fldOf Try.prog t_laws_Val 1, fldOf Try.prog t_laws_Val 2]) := by kernel_rfl
theorem entStruct : Try.prog.underlying t_laws_Entry = some (.struct #[fldOf Try.prog t_laws_Entry 0, fldOf Try.prog t_laws_Entry 1]) := by kernel_rfl
end Go.Proofs.Ytjiklhnijhiphaa
end
