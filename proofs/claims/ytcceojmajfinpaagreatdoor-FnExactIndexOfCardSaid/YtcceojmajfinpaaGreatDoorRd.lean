/-
  Readers of arguments
-/
import Derived.Test.YtcceojmajfinpaaGreatDoorFnsI
import Derived.Test.YtcceojmajfinpaaGreatDoorOk
import Derived.Test.YtcceojmajfinpaaGreatDoorVmC
section
set_option linter.unusedVariables false
set_option linter.unusedSectionVars false
set_option linter.unusedSimpArgs false
namespace Go.Vm
theorem RdF.cons' {P : Program} {f : Field} {fs : List Field} {n m : Nat} {t : TypeId} {α β : Type} {enc : α → List A} {ok : α → Prop} {enc' : β → List A} {ok' : β → Prop} (hf : f.type = t) (ho : f.offset = n) (hm : n + P.cellsOf t = m) (r : Rdr P t enc ok) (rs : RdF P fs m β enc' ok') :
 RdF P (f :: fs) n (α × β) (fun x => enc x.1 ++ enc' x.2) (fun x => ok x.1 ∧ ok' x.2) := by
 subst hf
 subst hm
 exact .cons ho r rs
def Z4k (P : Program) (t i : Nat) : Field :=
 match P.underlying t with
 | some (.struct fs) => fs.getD i default
 | _ => default
namespace T
open Go.Proofs
abbrev i64R (n : Int) : Prop := IntKind.i64.min ≤ n ∧ n ≤ IntKind.i64.max
theorem rInt : Rdr Tryz.prog Y5x (fun n : Int => [.n n]) i64R := .int (by kernel_rfl) (by kernel_rfl)
theorem rStr : Rdr Tryz.prog Zhq (fun s : ByteArray => [.s s]) (fun s => s.size ≤ maxLen) := .str (by kernel_rfl) (by kernel_rfl)
abbrev Zfr (v : Val) : Prop := i64R v.k ∧ i64R v.n ∧ v.t.size ≤ maxLen
theorem rVal : Rdr Tryz.prog Yy Val.c Zfr :=
 .iso (.struct (fs := #[Z4k Tryz.prog Yy 0, Z4k Tryz.prog Yy 1, Z4k Tryz.prog Yy 2]) (by kernel_rfl)
  (.cons' (m := 1) (by kernel_rfl) (by kernel_rfl) (by kernel_rfl) rInt (.cons' (m := 2) (by kernel_rfl) (by kernel_rfl) (by kernel_rfl) rInt (.cons' (m := 3) (by kernel_rfl) (by kernel_rfl) (by kernel_rfl) rStr .nil)))
  (fun y => by kernel_rfl)) (fun x => (⟨x.1, x.2.1, x.2.2.1⟩ : Val)) (fun x => rfl) (fun x h => ⟨h.1, h.2.1, h.2.2.1⟩) (fun y => by kernel_rfl) (fun y => rfl)
theorem Y1p : Rdr Tryz.prog Ztu (fun b : Bool => [.q b]) (fun _ => True) := .bool (by kernel_rfl) (by kernel_rfl)
abbrev Zxe (c : ColV) : Prop := c.nm.size ≤ maxLen ∧ Zfr c.df
theorem Zsu : Tryz.prog.underlying Ya = some (.struct #[Z4k Tryz.prog Ya 0, Z4k Tryz.prog Ya 1, Z4k Tryz.prog Ya 2, Z4k Tryz.prog Ya 3, Z4k Tryz.prog Ya 4]) := by kernel_rfl
theorem rCol : Rdr Tryz.prog Ya ColV.c Zxe :=
 .iso (.struct Zsu
  (.cons' (m := 1) (by kernel_rfl) (by kernel_rfl) (by kernel_rfl) rStr (.cons' (m := 2) (by kernel_rfl) (by kernel_rfl) (by kernel_rfl) rInt (.cons' (m := 3) (by kernel_rfl) (by kernel_rfl) (by kernel_rfl) Y1p (.cons' (m := 4) (by kernel_rfl) (by kernel_rfl) (by kernel_rfl) Y1p (.cons' (m := 7) (by kernel_rfl) (by kernel_rfl) (by kernel_rfl) rVal .nil)))))
  (fun y => by kernel_rfl)) (fun x => (⟨x.1, x.2.1, x.2.2.1, x.2.2.2.1, x.2.2.2.2.1⟩ : ColV)) (fun x => rfl) (fun x h => ⟨h.1, h.2.2.2.2.1⟩) (fun y => by kernel_rfl) (fun y => rfl)
abbrev Y0z (c : Chg) : Prop := c.nm.size ≤ maxLen ∧ c.nw.size ≤ maxLen ∧ Zxe c.col
theorem Zr9 : Tryz.prog.underlying Zj = some (.struct #[Z4k Tryz.prog Zj 0, Z4k Tryz.prog Zj 1, Z4k Tryz.prog Zj 2, Z4k Tryz.prog Zj 3]) := by kernel_rfl
theorem rChg : Rdr Tryz.prog Zj Chg.c Y0z :=
 .iso (.struct Zr9
  (.cons' (m := 1) (by kernel_rfl) (by kernel_rfl) (by kernel_rfl) rInt (.cons' (m := 2) (by kernel_rfl) (by kernel_rfl) (by kernel_rfl) rStr (.cons' (m := 3) (by kernel_rfl) (by kernel_rfl) (by kernel_rfl) rStr (.cons' (m := 10) (by kernel_rfl) (by kernel_rfl) (by kernel_rfl) rCol .nil))))
  (fun y => by kernel_rfl)) (fun x => (⟨x.1, x.2.1, x.2.2.1, x.2.2.2.1⟩ : Chg)) (fun x => rfl) (fun x h => ⟨h.2.1, h.2.2.1, h.2.2.2.1⟩) (fun y => by kernel_rfl) (fun y => rfl)
theorem Zxo : Tryz.prog.underlying Za5 = some (.slice Yy) := by kernel_rfl
theorem Y62 : Rdr Tryz.prog Za5 (fun xs : List Val => [.lit Yy (xs.map Val.c)]) (fun xs => xs.length ≤ maxLen ∧ ∀ x ∈ xs, Zfr x) := .slice Zxo (by kernel_rfl) (by decide +kernel) rVal
abbrev Zyr (r : RowV) : Prop := r.vals.length ≤ maxLen ∧ ∀ x ∈ r.vals, Zfr x
theorem Zs1 : Tryz.prog.underlying Ys = some (.struct #[Z4k Tryz.prog Ys 0, Z4k Tryz.prog Ys 1, Z4k Tryz.prog Ys 2]) := by kernel_rfl
theorem rRow : Rdr Tryz.prog Ys rowL Zyr :=
 .iso (.struct Zs1
  (.cons' (m := 1) (by kernel_rfl) (by kernel_rfl) (by kernel_rfl) rInt (.cons' (m := 2) (by kernel_rfl) (by kernel_rfl) (by kernel_rfl) rInt (.cons' (m := 3) (by kernel_rfl) (by kernel_rfl) (by kernel_rfl) Y62 .nil)))
  (fun y => by kernel_rfl)) (fun x => (⟨x.1, x.2.1, x.2.2.1⟩ : RowV)) (fun x => rfl) (fun x h => h.2.2.1) (fun y => by kernel_rfl) (fun y => rfl)
theorem Zw7 : Tryz.prog.underlying Zal = some (.slice Ya) := by kernel_rfl
theorem Zwj : Tryz.prog.underlying Z5k = some (.slice Zj) := by kernel_rfl
theorem Zw0 : Tryz.prog.underlying Zai = some (.slice Ys) := by kernel_rfl
theorem Y72 : Rdr Tryz.prog Zal (fun xs : List ColV => [.lit Ya (xs.map ColV.c)]) (fun xs => xs.length ≤ maxLen ∧ ∀ x ∈ xs, Zxe x) := .slice Zw7 (by kernel_rfl) (by decide +kernel) rCol
theorem Y5a : Rdr Tryz.prog Z5k (fun xs : List Chg => [.lit Zj (xs.map Chg.c)]) (fun xs => xs.length ≤ maxLen ∧ ∀ x ∈ xs, Y0z x) := .slice Zwj (by kernel_rfl) (by decide +kernel) rChg
theorem Y55 : Rdr Tryz.prog Zai (fun xs : List RowV => [.lit Ys (xs.map rowL)]) (fun xs => xs.length ≤ maxLen ∧ ∀ x ∈ xs, Zyr x) := .slice Zw0 (by kernel_rfl) (by decide +kernel) rRow
structure okTab (t : Tab) : Prop where
 a : t.first.length ≤ maxLen ∧ ∀ x ∈ t.first, Zxe x
 b : t.chg.length ≤ maxLen ∧ ∀ x ∈ t.chg, Y0z x
 c : t.rows.length ≤ maxLen ∧ ∀ x ∈ t.rows, Zyr x
theorem Zkq : Tryz.prog.underlying Yo = some (.struct #[Z4k Tryz.prog Yo 0, Z4k Tryz.prog Yo 1, Z4k Tryz.prog Yo 2, Z4k Tryz.prog Yo 3]) := by kernel_rfl
theorem rTab : Rdr Tryz.prog Yo tabL okTab :=
 .iso (.struct Zkq
  (.cons' (m := 1) (by kernel_rfl) (by kernel_rfl) (by kernel_rfl) Y72 (.cons' (m := 2) (by kernel_rfl) (by kernel_rfl) (by kernel_rfl) Y5a (.cons' (m := 3) (by kernel_rfl) (by kernel_rfl) (by kernel_rfl) Y55 (.cons' (m := 4) (by kernel_rfl) (by kernel_rfl) (by kernel_rfl) rInt .nil))))
  (fun y => by kernel_rfl)) (fun x => (⟨x.1, x.2.1, x.2.2.1, x.2.2.2.1⟩ : Tab)) (fun x => rfl) (fun x h => ⟨h.1, h.2.1, h.2.2.1⟩) (fun y => by kernel_rfl) (fun y => rfl)
theorem Y0x {t : Tab} (h : okTab t) : FitT t :=
 ⟨h.a.1, fun c hc => ⟨(h.a.2 c hc).1, (h.a.2 c hc).2.2.2⟩, h.b.1, fun c hc => ⟨(h.b.2 c hc).1, (h.b.2 c hc).2.1, (h.b.2 c hc).2.2.1, (h.b.2 c hc).2.2.2.2.2⟩, h.c.1, fun r hr => ⟨(h.c.2 r hr).1, fun v hv => ((h.c.2 r hr).2 v hv).2.2⟩⟩
theorem Y03 : Tryz.prog.underlying Zhq = some .string := by kernel_rfl
end T
end Go.Vm
end
