/-
  Readers of arguments
-/
import Derived.Test.YtcceojmajfinpaaGreatDoorFnsI
import Derived.Test.YtcceojmajfinpaaGreatDoorOk
import Derived.Test.YtcceojmajfinpaaGreatDoorVmC
section
set_option linter.unusedVariables false
set_option linter.unusedSectionVars false
set_option linter.unusedSimpArgs false
/- Readers of arguments. -/
namespace Go.Vm
theorem RdF.cons' {P : Program} {f : Field} {fs : List Field} {n m : Nat} {t : TypeId} {α β : Type} {enc : α → List A} {ok : α → Prop} {enc' : β → List A} {ok' : β → Prop} (hf : f.type = t) (ho : f.offset = n) (hm : n + P.cellsOf t = m) (r : Rdr P t enc ok) (rs : RdF P fs m β enc' ok') :
    RdF P (f :: fs) n (α × β) (fun x => enc x.1 ++ enc' x.2) (fun x => ok x.1 ∧ ok' x.2) := by
  subst hf
  subst hm
  exact .cons ho r rs
def fldOf (P : Program) (t i : Nat) : Field :=
  match P.underlying t with
  | some (.struct fs) => fs.getD i default
  | _ => default
namespace T
open Go.Proofs
abbrev i64R (n : Int) : Prop := IntKind.i64.min ≤ n ∧ n ≤ IntKind.i64.max
theorem rInt : Rdr Tryz.prog t_int (fun n : Int => [.n n]) i64R := .int (by kernel_rfl) (by kernel_rfl)
theorem rStr : Rdr Tryz.prog t_string (fun s : ByteArray => [.s s]) (fun s => s.size ≤ maxLen) := .str (by kernel_rfl) (by kernel_rfl)
abbrev okVal (v : Val) : Prop := i64R v.k ∧ i64R v.n ∧ v.t.size ≤ maxLen
theorem rVal : Rdr Tryz.prog t_laws_Val Val.c okVal :=
  .iso (.struct (fs := #[fldOf Tryz.prog t_laws_Val 0, fldOf Tryz.prog t_laws_Val 1, fldOf Tryz.prog t_laws_Val 2]) (by kernel_rfl)
    (.cons' (m := 1) (by kernel_rfl) (by kernel_rfl) (by kernel_rfl) rInt (.cons' (m := 2) (by kernel_rfl) (by kernel_rfl) (by kernel_rfl) rInt (.cons' (m := 3) (by kernel_rfl) (by kernel_rfl) (by kernel_rfl) rStr .nil)))
    (fun y => by kernel_rfl)) (fun x => (⟨x.1, x.2.1, x.2.2.1⟩ : Val)) (fun x => rfl) (fun x h => ⟨h.1, h.2.1, h.2.2.1⟩) (fun y => by kernel_rfl) (fun y => rfl)
theorem rBool : Rdr Tryz.prog t_bool (fun b : Bool => [.q b]) (fun _ => True) := .bool (by kernel_rfl) (by kernel_rfl)
abbrev okCol (c : ColV) : Prop := c.nm.size ≤ maxLen ∧ okVal c.df
theorem colStruct : Tryz.prog.underlying t_laws_Col = some (.struct #[fldOf Tryz.prog t_laws_Col 0, fldOf Tryz.prog t_laws_Col 1, fldOf Tryz.prog t_laws_Col 2, fldOf Tryz.prog t_laws_Col 3, fldOf Tryz.prog t_laws_Col 4]) := by kernel_rfl
theorem rCol : Rdr Tryz.prog t_laws_Col ColV.c okCol :=
  .iso (.struct colStruct
    (.cons' (m := 1) (by kernel_rfl) (by kernel_rfl) (by kernel_rfl) rStr (.cons' (m := 2) (by kernel_rfl) (by kernel_rfl) (by kernel_rfl) rInt (.cons' (m := 3) (by kernel_rfl) (by kernel_rfl) (by kernel_rfl) rBool (.cons' (m := 4) (by kernel_rfl) (by kernel_rfl) (by kernel_rfl) rBool (.cons' (m := 7) (by kernel_rfl) (by kernel_rfl) (by kernel_rfl) rVal .nil)))))
    (fun y => by kernel_rfl)) (fun x => (⟨x.1, x.2.1, x.2.2.1, x.2.2.2.1, x.2.2.2.2.1⟩ : ColV)) (fun x => rfl) (fun x h => ⟨h.1, h.2.2.2.2.1⟩) (fun y => by kernel_rfl) (fun y => rfl)
abbrev okChg (c : Chg) : Prop := c.nm.size ≤ maxLen ∧ c.nw.size ≤ maxLen ∧ okCol c.col
theorem chgStruct : Tryz.prog.underlying t_laws_Change = some (.struct #[fldOf Tryz.prog t_laws_Change 0, fldOf Tryz.prog t_laws_Change 1, fldOf Tryz.prog t_laws_Change 2, fldOf Tryz.prog t_laws_Change 3]) := by kernel_rfl
theorem rChg : Rdr Tryz.prog t_laws_Change Chg.c okChg :=
  .iso (.struct chgStruct
    (.cons' (m := 1) (by kernel_rfl) (by kernel_rfl) (by kernel_rfl) rInt (.cons' (m := 2) (by kernel_rfl) (by kernel_rfl) (by kernel_rfl) rStr (.cons' (m := 3) (by kernel_rfl) (by kernel_rfl) (by kernel_rfl) rStr (.cons' (m := 10) (by kernel_rfl) (by kernel_rfl) (by kernel_rfl) rCol .nil))))
    (fun y => by kernel_rfl)) (fun x => (⟨x.1, x.2.1, x.2.2.1, x.2.2.2.1⟩ : Chg)) (fun x => rfl) (fun x h => ⟨h.2.1, h.2.2.1, h.2.2.2.1⟩) (fun y => by kernel_rfl) (fun y => rfl)
theorem valSlice : Tryz.prog.underlying t_S_laws_Val = some (.slice t_laws_Val) := by kernel_rfl
theorem rValS : Rdr Tryz.prog t_S_laws_Val (fun xs : List Val => [.lit t_laws_Val (xs.map Val.c)]) (fun xs => xs.length ≤ maxLen ∧ ∀ x ∈ xs, okVal x) := .slice valSlice (by kernel_rfl) (by decide +kernel) rVal
abbrev okRow (r : RowV) : Prop := r.vals.length ≤ maxLen ∧ ∀ x ∈ r.vals, okVal x
theorem rowStruct : Tryz.prog.underlying t_laws_Row = some (.struct #[fldOf Tryz.prog t_laws_Row 0, fldOf Tryz.prog t_laws_Row 1, fldOf Tryz.prog t_laws_Row 2]) := by kernel_rfl
theorem rRow : Rdr Tryz.prog t_laws_Row rowL okRow :=
  .iso (.struct rowStruct
    (.cons' (m := 1) (by kernel_rfl) (by kernel_rfl) (by kernel_rfl) rInt (.cons' (m := 2) (by kernel_rfl) (by kernel_rfl) (by kernel_rfl) rInt (.cons' (m := 3) (by kernel_rfl) (by kernel_rfl) (by kernel_rfl) rValS .nil)))
    (fun y => by kernel_rfl)) (fun x => (⟨x.1, x.2.1, x.2.2.1⟩ : RowV)) (fun x => rfl) (fun x h => h.2.2.1) (fun y => by kernel_rfl) (fun y => rfl)
theorem colSlice : Tryz.prog.underlying t_S_laws_Col = some (.slice t_laws_Col) := by kernel_rfl
theorem chgSlice : Tryz.prog.underlying t_S_laws_Change = some (.slice t_laws_Change) := by kernel_rfl
theorem rowSlice : Tryz.prog.underlying t_S_laws_Row = some (.slice t_laws_Row) := by kernel_rfl
theorem rColS : Rdr Tryz.prog t_S_laws_Col (fun xs : List ColV => [.lit t_laws_Col (xs.map ColV.c)]) (fun xs => xs.length ≤ maxLen ∧ ∀ x ∈ xs, okCol x) := .slice colSlice (by kernel_rfl) (by decide +kernel) rCol
theorem rChgS : Rdr Tryz.prog t_S_laws_Change (fun xs : List Chg => [.lit t_laws_Change (xs.map Chg.c)]) (fun xs => xs.length ≤ maxLen ∧ ∀ x ∈ xs, okChg x) := .slice chgSlice (by kernel_rfl) (by decide +kernel) rChg
theorem rRowS : Rdr Tryz.prog t_S_laws_Row (fun xs : List RowV => [.lit t_laws_Row (xs.map rowL)]) (fun xs => xs.length ≤ maxLen ∧ ∀ x ∈ xs, okRow x) := .slice rowSlice (by kernel_rfl) (by decide +kernel) rRow
structure okTab (t : Tab) : Prop where
  a : t.first.length ≤ maxLen ∧ ∀ x ∈ t.first, okCol x
  b : t.chg.length ≤ maxLen ∧ ∀ x ∈ t.chg, okChg x
  c : t.rows.length ≤ maxLen ∧ ∀ x ∈ t.rows, okRow x
theorem tabStruct : Tryz.prog.underlying t_laws_Table = some (.struct #[fldOf Tryz.prog t_laws_Table 0, fldOf Tryz.prog t_laws_Table 1, fldOf Tryz.prog t_laws_Table 2, fldOf Tryz.prog t_laws_Table 3]) := by kernel_rfl
theorem rTab : Rdr Tryz.prog t_laws_Table tabL okTab :=
  .iso (.struct tabStruct
    (.cons' (m := 1) (by kernel_rfl) (by kernel_rfl) (by kernel_rfl) rColS (.cons' (m := 2) (by kernel_rfl) (by kernel_rfl) (by kernel_rfl) rChgS (.cons' (m := 3) (by kernel_rfl) (by kernel_rfl) (by kernel_rfl) rRowS (.cons' (m := 4) (by kernel_rfl) (by kernel_rfl) (by kernel_rfl) rInt .nil))))
    (fun y => by kernel_rfl)) (fun x => (⟨x.1, x.2.1, x.2.2.1, x.2.2.2.1⟩ : Tab)) (fun x => rfl) (fun x h => ⟨h.1, h.2.1, h.2.2.1⟩) (fun y => by kernel_rfl) (fun y => rfl)
theorem fitT_of {t : Tab} (h : okTab t) : FitT t :=
  ⟨h.a.1, fun c hc => ⟨(h.a.2 c hc).1, (h.a.2 c hc).2.2.2⟩, h.b.1, fun c hc => ⟨(h.b.2 c hc).1, (h.b.2 c hc).2.1, (h.b.2 c hc).2.2.1, (h.b.2 c hc).2.2.2.2.2⟩, h.c.1, fun r hr => ⟨(h.c.2 r hr).1, fun v hv => ((h.c.2 r hr).2 v hv).2.2⟩⟩
end T
end Go.Vm
end
