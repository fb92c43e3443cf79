/-
  Drawn regions, code and programs of the abstract machine, held against the model
-/
import Derived.Test.YtcceojmajfinpaaGreatDoorVmB
import Derived.LoopN
import Derived.ProofKit
section
set_option linter.unusedVariables false
set_option linter.unusedSectionVars false
set_option linter.unusedSimpArgs false
/-
  What an operation reads of the heap, and what it turns there: for regions that draw their order.
-/
set_option linter.unusedVariables false
set_option linter.unusedSimpArgs false
namespace Go.Vm
open Go.RowKit
def AOp.opds : AOp → List Opd
  | .mv _ x => [x] | .pick _ c a b => [c, a, b] | .box _ _ _ _ x => [x] | .bld _ _ _ ps => ps.map (·.2.2) | .bsl _ _ _ _ xs => xs | .ld _ _ _ p => [p] | .st _ p x => [p, x] | .stn _ _ p => [p]
  | .nl _ x => [x] | .bin _ _ x y => [x, y] | .eqs _ _ _ x y => [x, y] | .beq _ _ x y => [x, y] | .un _ _ x => [x] | .cv _ _ x => [x] | .cbs _ _ x => [x] | .mkf _ _ xs => xs
  | .mks _ _ _ _ l c => [l, c] | .sl _ _ x a b c => x :: (a.toList ++ b.toList ++ c.toList) | .fa _ x _ => [x] | .fld _ x _ _ _ => [x] | .ex _ x _ => [x] | .ia _ _ x i => [x, i] | .ix _ x i => [x, i]
  | .call _ _ _ _ xs => xs | .callv _ _ _ f xs => f :: xs | .dcall _ _ xs => xs | .mkb _ _ _ _ l c => [l, c] | .bsb _ _ _ _ xs => xs | .apb _ _ _ s x => [s, x] | .callx _ _ _ _ xs => xs | .dcs _ _ xs => xs | .bll _ _ _ xs => xs | .dcallv _ f xs => f :: xs | .len _ _ x => [x] | .app _ _ _ s x => [s, x] | .clr _ _ x => [x] | .mnx _ _ x y => [x, y]
  | _ => []
def Same (x y : Option Blk) : Prop := ∃ k k', x = some k ∧ y = some k' ∧ k'.ty = k.ty ∧ k'.rows = k.rows ∧ k'.box = k.box
theorem Same.refl {x : Option Blk} (h : x ≠ none) : Same x x := by
  cases x with
  | none => exact absurd rfl h
  | some k => exact ⟨k, k, rfl, rfl, rfl, rfl, rfl⟩
theorem Same.symm {x y : Option Blk} (h : Same x y) : Same y x := by
  obtain ⟨k, k', rfl, rfl, a, b, c⟩ := h
  exact ⟨k', k, rfl, rfl, a.symm, b.symm, c.symm⟩
theorem Same.trans {x y z : Option Blk} (h : Same x y) (g : Same y z) : Same x z := by
  obtain ⟨k, k', rfl, rfl, a, b, c⟩ := h
  obtain ⟨l, l', e, rfl, a', b', c'⟩ := g
  cases e
  exact ⟨k, l', rfl, rfl, a'.trans a, b'.trans b, c'.trans c⟩
def frz1 (x : Option Blk) : Option Blk := x.map fun k => { k with own := false }
theorem frz1_same {x : Option Blk} (h : x ≠ none) : Same x (frz1 x) := by
  cases x with
  | none => exact absurd rfl h
  | some k => exact ⟨k, _, rfl, rfl, rfl, rfl, rfl⟩
theorem frz_one (bs : List Nat) (h : Hp) (b : Nat) : frz h bs b = if b ∈ bs then frz1 (h b) else h b := by
  rw [frz_at]
  cases h b with
  | none => simp [frz1]
  | some k => by_cases hb : b ∈ bs <;> simp [hb, frz1]
variable {h h' : Hp}
theorem rowAt_same {a : A} {r : List A × Nat} (e : rowAt h a = some r) (hs : ∀ b ∈ nmIn a, Same (h b) (h' b)) : rowAt h' a = some r ∧ ∀ b ∈ nmIn a, h b ≠ none := by
  cases a with
  | pl row j => exact ⟨e, fun b hb => by simp [nmIn] at hb⟩
  | ptr b i j =>
    obtain ⟨k, hk, e1⟩ := bnd_eq e
    obtain ⟨k1, k2, e2, e3, _, e4, _⟩ := hs b (by simp [nmIn])
    rw [hk] at e2; cases e2
    refine ⟨?_, fun b' hb => by simp [nmIn] at hb; subst hb; rw [hk]; simp⟩
    simp only [rowAt, e3, bnd, e4]
    exact e1
  | _ => simp [rowAt] at e
theorem rowsOf_same {t : Nat} {a : A} {r : List (List A)} (e : rowsOf t h a = some r) (hs : ∀ b ∈ nmIn a, Same (h b) (h' b)) : rowsOf t h' a = some r ∧ ∀ b ∈ nmIn a, h b ≠ none := by
  cases a with
  | lit ty rows => exact ⟨e, fun b hb => by simp [nmIn] at hb⟩
  | ref ty b off len cap ex =>
    obtain ⟨k, hk, e1⟩ := bnd_eq e
    obtain ⟨k1, k2, e2, e3, e5, e4, e6⟩ := hs b (by simp [nmIn])
    rw [hk] at e2; cases e2
    refine ⟨?_, fun b' hb => by simp [nmIn] at hb; subst hb; rw [hk]; simp⟩
    simp only [rowsOf, e3, bnd, e4, e5, e6]
    exact e1
  | _ => simp [rowsOf] at e
theorem clCell_same {a c : A} (e : clCell h a = some c) (hs : ∀ b ∈ nmCell a, Same (h b) (h' b)) : clCell h' a = some c ∧ ∀ b ∈ nmCell a, h b ≠ none := by
  cases a with
  | v x => exact ⟨e, fun b hb => by simp [nmCell] at hb⟩
  | lit ty rows => exact ⟨e, fun b hb => by simp [nmCell] at hb⟩
  | ref ty b off len cap ex =>
    obtain ⟨k, hk, e1⟩ := bnd_eq e
    obtain ⟨k1, k2, e2, e3, e5, e4, e6⟩ := hs b (by simp [nmCell])
    rw [hk] at e2; cases e2
    refine ⟨?_, fun b' hb => by simp [nmCell] at hb; subst hb; rw [hk]; simp⟩
    simp only [clCell, e3, bnd, e4, e5, e6]
    exact e1
  | _ => simp [clCell] at e
theorem clCells_same : ∀ {as cs : List A}, clCells h as = some cs → (∀ b ∈ nmCells as, Same (h b) (h' b)) → clCells h' as = some cs ∧ ∀ b ∈ nmCells as, h b ≠ none
  | [], cs, e, _ => ⟨e, fun b hb => by simp [nmCells] at hb⟩
  | a :: as, cs, e, hs => by
    obtain ⟨c, hc, e1⟩ := bnd_eq e
    obtain ⟨cs', hcs, e2⟩ := bnd_eq e1
    obtain ⟨p1, p2⟩ := clCell_same hc (fun b hb => hs b (by simp [nmCells, hb]))
    obtain ⟨q1, q2⟩ := clCells_same hcs (fun b hb => hs b (by simp [nmCells, hb]))
    refine ⟨by simp only [clCells, p1, q1, bnd]; exact e2, fun b hb => ?_⟩
    simp only [nmCells, List.mem_append] at hb
    rcases hb with hb | hb
    · exact p2 b hb
    · exact q2 b hb
theorem clPtr_same {a c : A} (e : clPtr h a = some c) (hs : ∀ b ∈ nmPtr h a, Same (h b) (h' b)) : clPtr h' a = some c ∧ nmPtr h' a = nmPtr h a ∧ ∀ b ∈ nmPtr h a, h b ≠ none := by
  cases a with
  | pl r j => exact ⟨e, rfl, fun b hb => by simp [nmPtr] at hb⟩
  | ptr b i j =>
    obtain ⟨k, hk, e1⟩ := bnd_eq e
    obtain ⟨row, hrow, e2⟩ := bnd_eq e1
    obtain ⟨cs, hcs, e3⟩ := bnd_eq e2
    have hnm : nmPtr h (.ptr b i j) = b :: nmCells row := by simp [nmPtr, hk, hrow]
    obtain ⟨k1, k2, f2, f3, f5, f4, f6⟩ := hs b (by rw [hnm]; exact List.mem_cons_self)
    rw [hk] at f2; cases f2
    obtain ⟨p1, p2⟩ := clCells_same hcs (fun b' hb => hs b' (by rw [hnm]; exact List.mem_cons_of_mem _ hb))
    refine ⟨?_, ?_, fun b' hb => ?_⟩
    · simp only [clPtr, f3, bnd, f4, hrow, p1]; exact e3
    · rw [hnm]; simp [nmPtr, f3, f4, hrow]
    · rw [hnm] at hb
      rcases List.mem_cons.1 hb with rfl | hb
      · rw [hk]; simp
      · exact p2 b' hb
  | _ => simp [clPtr] at e
theorem clPtrs_same : ∀ {as cs : List A}, clPtrs h as = some cs → (∀ b ∈ nmPtrs h as, Same (h b) (h' b)) → clPtrs h' as = some cs ∧ nmPtrs h' as = nmPtrs h as ∧ ∀ b ∈ nmPtrs h as, h b ≠ none
  | [], cs, e, _ => ⟨e, rfl, fun b hb => by simp [nmPtrs] at hb⟩
  | a :: as, cs, e, hs => by
    obtain ⟨c, hc, e1⟩ := bnd_eq e
    obtain ⟨cs', hcs, e2⟩ := bnd_eq e1
    obtain ⟨p1, p2, p3⟩ := clPtr_same hc (fun b hb => hs b (by simp [nmPtrs, hb]))
    obtain ⟨q1, q2, q3⟩ := clPtrs_same hcs (fun b hb => hs b (by simp [nmPtrs, hb]))
    refine ⟨by simp only [clPtrs, p1, q1, bnd]; exact e2, by simp only [nmPtrs, p2, q2], fun b hb => ?_⟩
    simp only [nmPtrs, List.mem_append] at hb
    rcases hb with hb | hb
    · exact p3 b hb
    · exact q3 b hb
theorem clVal_same {a c : A} (e : clVal h a = some c) (hs : ∀ b ∈ nmVal h a, Same (h b) (h' b)) : clVal h' a = some c ∧ nmVal h' a = nmVal h a ∧ ∀ b ∈ nmVal h a, h b ≠ none := by
  cases a with
  | agg cs =>
    obtain ⟨ds, hds, e1⟩ := bnd_eq e
    obtain ⟨p1, p2⟩ := clCells_same hds hs
    exact ⟨by simp only [clVal, p1, bnd]; exact e1, rfl, p2⟩
  | fn f caps =>
    obtain ⟨ds, hds, e1⟩ := bnd_eq e
    obtain ⟨p1, p2, p3⟩ := clPtrs_same hds hs
    exact ⟨by simp only [clVal, p1, bnd]; exact e1, p2, p3⟩
  | ptr b i j => exact clPtr_same (show clPtr h (.ptr b i j) = some c from e) hs
  | pl r j => exact ⟨e, rfl, fun b hb => by simp [nmVal, nmCell] at hb⟩
  | v x =>
    obtain ⟨p1, p2⟩ := clCell_same (show clCell h (.v x) = some c from e) hs
    exact ⟨p1, rfl, p2⟩
  | lit ty rows =>
    obtain ⟨p1, p2⟩ := clCell_same (show clCell h (.lit ty rows) = some c from e) hs
    exact ⟨p1, rfl, p2⟩
  | ref ty b off len cap ex =>
    obtain ⟨p1, p2⟩ := clCell_same (show clCell h (.ref ty b off len cap ex) = some c from e) hs
    exact ⟨p1, rfl, p2⟩
  | _ => simp [clVal, clCell] at e
theorem clVals_same : ∀ {as cs : List A}, clVals h as = some cs → (∀ b ∈ nmVals h as, Same (h b) (h' b)) → clVals h' as = some cs ∧ nmVals h' as = nmVals h as ∧ ∀ b ∈ nmVals h as, h b ≠ none
  | [], cs, e, _ => ⟨e, rfl, fun b hb => by simp [nmVals] at hb⟩
  | a :: as, cs, e, hs => by
    obtain ⟨c, hc, e1⟩ := bnd_eq e
    obtain ⟨cs', hcs, e2⟩ := bnd_eq e1
    obtain ⟨p1, p2, p3⟩ := clVal_same hc (fun b hb => hs b (by simp [nmVals, hb]))
    obtain ⟨q1, q2, q3⟩ := clVals_same hcs (fun b hb => hs b (by simp [nmVals, hb]))
    refine ⟨by simp only [clVals, p1, q1, bnd]; exact e2, by simp only [nmVals, p2, q2], fun b hb => ?_⟩
    simp only [nmVals, List.mem_append] at hb
    rcases hb with hb | hb
    · exact p3 b hb
    · exact q3 b hb
def rdV (h : Hp) (get : Opd → Option A) : AOp → List Nat
  | .ld _ _ _ p => match get p with | some v => nmIn v | none => []
  | .cbs _ _ x => match get x with | some v => nmIn v | none => []
  | .call _ _ _ _ xs => match xs.mapM get with | some as => nmVals h as | none => []
  | _ => []
theorem mapM_congr {f g : Opd → Option A} : ∀ {xs : List Opd}, (∀ x ∈ xs, g x = f x) → xs.mapM g = xs.mapM f
  | [], _ => rfl
  | x :: xs, e => by
    rw [List.mapM_cons, List.mapM_cons, e x List.mem_cons_self, mapM_congr (xs := xs) (fun y hy => e y (List.mem_cons_of_mem _ hy))]
theorem valOp_same {E : Env} {get get' : Opd → Option A} {pk pk' : Bool → Opd → Option Bool} {op : AOp} {u : A} (e : valOp E h get pk op = some u) (hg : ∀ x ∈ op.opds, get' x = get x) (hp : ∀ q, ∀ x ∈ op.opds, pk' q x = pk q x)
    (hs : ∀ b ∈ rdV h get op, Same (h b) (h' b)) : valOp E h' get' pk' op = some u ∧ ∀ b ∈ rdV h get op, h b ≠ none := by
  cases op with
  | ld d n g p =>
    simp only [valOp] at e ⊢
    rw [hg p (by simp [AOp.opds])]
    obtain ⟨r, hr, e1⟩ := bnd_eq e
    obtain ⟨v, hv, hr⟩ := bnd_eq hr
    simp only [rdV, hv] at hs ⊢
    obtain ⟨p1, p2⟩ := rowAt_same hr hs
    exact ⟨by simp only [bnd, p1]; exact e1, p2⟩
  | cbs d t x =>
    simp only [valOp] at e ⊢
    rw [hg x (by simp [AOp.opds])]
    obtain ⟨l, hl, e1⟩ := bnd_eq e
    obtain ⟨r, hr, hl⟩ := bnd_eq hl
    obtain ⟨v, hv, hr⟩ := bnd_eq hr
    simp only [rdV, hv] at hs ⊢
    obtain ⟨p1, p2⟩ := rowsOf_same hr hs
    exact ⟨by simp only [bnd, p1, hl]; exact e1, p2⟩
  | call d nm w f xs =>
    simp only [valOp] at e ⊢
    have hm : xs.mapM get' = xs.mapM get := mapM_congr (fun x hx => hg x (by simpa [AOp.opds] using hx))
    rw [hm]
    obtain ⟨rs, hrs, e1⟩ := bnd_eq e
    obtain ⟨cs, hcs, hrs⟩ := bnd_eq hrs
    obtain ⟨as, has, hcs⟩ := bnd_eq hcs
    simp only [rdV, has] at hs ⊢
    obtain ⟨p1, p2, p3⟩ := clVals_same hcs hs
    exact ⟨by simp only [bnd, p1, hrs]; exact e1, p3⟩
  | pick d c a b =>
    simp only [valOp] at e ⊢
    rw [hg c (by simp [AOp.opds])]
    have h1 : ∀ q, pk' q a = pk q a := fun q => hp q a (by simp [AOp.opds])
    have h2 : ∀ q, pk' q b = pk q b := fun q => hp q b (by simp [AOp.opds])
    simp only [h1, h2]
    exact ⟨e, fun b hb => by simp [rdV] at hb⟩
  | bin d o x y => simp only [valOp] at e ⊢; rw [hg x (by simp [AOp.opds]), hg y (by simp [AOp.opds])]; exact ⟨e, fun b hb => by simp [rdV] at hb⟩
  | eqs d ks ng x y => simp only [valOp] at e ⊢; rw [hg x (by simp [AOp.opds]), hg y (by simp [AOp.opds])]; exact ⟨e, fun b hb => by simp [rdV] at hb⟩
  | beq d ng x y => simp only [valOp] at e ⊢; rw [hg x (by simp [AOp.opds]), hg y (by simp [AOp.opds])]; exact ⟨e, fun b hb => by simp [rdV] at hb⟩
  | ia d t x y => simp only [valOp] at e ⊢; rw [hg x (by simp [AOp.opds]), hg y (by simp [AOp.opds])]; exact ⟨e, fun b hb => by simp [rdV] at hb⟩
  | ix d x y => simp only [valOp] at e ⊢; rw [hg x (by simp [AOp.opds]), hg y (by simp [AOp.opds])]; exact ⟨e, fun b hb => by simp [rdV] at hb⟩
  | mnx d m x y => simp only [valOp] at e ⊢; rw [hg x (by simp [AOp.opds]), hg y (by simp [AOp.opds])]; exact ⟨e, fun b hb => by simp [rdV] at hb⟩
  | mv d x => simp only [valOp] at e ⊢; rw [hg x (by simp [AOp.opds])]; exact ⟨e, fun b hb => by simp [rdV] at hb⟩
  | un d o x => simp only [valOp] at e ⊢; rw [hg x (by simp [AOp.opds])]; exact ⟨e, fun b hb => by simp [rdV] at hb⟩
  | cv d k x => simp only [valOp] at e ⊢; rw [hg x (by simp [AOp.opds])]; exact ⟨e, fun b hb => by simp [rdV] at hb⟩
  | fa d x o => simp only [valOp] at e ⊢; rw [hg x (by simp [AOp.opds])]; exact ⟨e, fun b hb => by simp [rdV] at hb⟩
  | fld d x o n g => simp only [valOp] at e ⊢; rw [hg x (by simp [AOp.opds])]; exact ⟨e, fun b hb => by simp [rdV] at hb⟩
  | ex d x i => simp only [valOp] at e ⊢; rw [hg x (by simp [AOp.opds])]; exact ⟨e, fun b hb => by simp [rdV] at hb⟩
  | len d s x => simp only [valOp] at e ⊢; rw [hg x (by simp [AOp.opds])]; exact ⟨e, fun b hb => by simp [rdV] at hb⟩
  | nl d x => simp only [valOp] at e ⊢; rw [hg x (by simp [AOp.opds])]; exact ⟨e, fun b hb => by simp [rdV] at hb⟩
  | bld d nm zs ps =>
    cases ps with
    | nil => exact ⟨e, fun b hb => by simp [rdV] at hb⟩
    | cons p ps => simp [valOp] at e
  | _ => simp [valOp] at e
variable {σ σ2 : St}
theorem fills_same : ∀ {ps : List (Nat × Nat × Opd)} {cs : List A}, (∀ x ∈ ps.map (·.2.2), ev σ2 x = ev σ x) → fills σ2 cs ps = fills σ cs ps
  | [], cs, _ => rfl
  | (off, n, x) :: ps, cs, e => by
    simp only [fills]
    rw [e x (by simp)]
    split
    · exact fills_same (fun y hy => e y (by simp at hy ⊢; exact .inr hy))
    · rfl
theorem evs_same : ∀ {xs : List Opd}, (∀ x ∈ xs, ev σ2 x = ev σ x) → evs σ2 xs = evs σ xs
  | [], _ => rfl
  | x :: xs, e => by simp only [evs, e x List.mem_cons_self, evs_same (fun y hy => e y (List.mem_cons_of_mem _ hy))]
theorem nmRows_same : ∀ {xs : List Opd}, (∀ x ∈ xs, ev σ2 x = ev σ x) → nmRows σ2 xs = nmRows σ xs
  | [], _ => rfl
  | x :: xs, e => by simp only [nmRows, e x List.mem_cons_self, nmRows_same (fun y hy => e y (List.mem_cons_of_mem _ hy))]
theorem clRows_same {n : Nat} : ∀ {xs : List Opd} {rows : List (List A)}, clRows σ n xs = some rows → (∀ x ∈ xs, ev σ2 x = ev σ x) → (∀ b ∈ nmRows σ xs, Same (σ.h b) (σ2.h b)) → clRows σ2 n xs = some rows ∧ ∀ b ∈ nmRows σ xs, σ.h b ≠ none
  | [], rows, e, _, _ => ⟨e, fun b hb => by simp [nmRows] at hb⟩
  | x :: xs, rows, e, he, hs => by
    simp only [clRows] at e ⊢
    rw [he x List.mem_cons_self]
    split at e
    · rename_i hl
      rw [if_pos hl]
      obtain ⟨r, hr, e1⟩ := bnd_eq e
      obtain ⟨rs, hrs, e2⟩ := bnd_eq e1
      obtain ⟨p1, p2⟩ := clCells_same hr (fun b hb => hs b (by simp [nmRows, hb]))
      obtain ⟨q1, q2⟩ := clRows_same hrs (fun y hy => he y (List.mem_cons_of_mem _ hy)) (fun b hb => hs b (by simp [nmRows, hb]))
      refine ⟨by simp only [p1, q1, bnd]; exact e2, fun b hb => ?_⟩
      simp only [nmRows, List.mem_append] at hb
      rcases hb with hb | hb
      · exact p2 b hb
      · exact q2 b hb
    · cases e
theorem optI_same {x : Option Opd} {z : Nat} (e : ∀ y ∈ x.toList, ev σ2 y = ev σ y) : optI σ2 x z = optI σ x z := by
  cases x with
  | none => rfl
  | some y => simp only [optI, e y (by simp)]
theorem sliceA_same {t : Option Nat} {lo hi mx : Option Opd} {a : A} (e1 : ∀ y ∈ lo.toList, ev σ2 y = ev σ y) (e2 : ∀ y ∈ hi.toList, ev σ2 y = ev σ y) (e3 : ∀ y ∈ mx.toList, ev σ2 y = ev σ y) : sliceA σ2 t lo hi mx a = sliceA σ t lo hi mx a := by
  cases a with
  | v x => cases x <;> simp only [sliceA, optI_same e1, optI_same e2, optI_same e3]
  | _ => simp only [sliceA, optI_same e1, optI_same e2, optI_same e3]
end Go.Vm

/-
  The local effect of an operation.
-/
set_option linter.unusedVariables false
set_option linter.unusedSimpArgs false
namespace Go.Vm
open Go.RowKit
structure LocE (f : St → Option St) (ag : St → St → Prop) (σ : St) (d : Option Nat) (u : A) (F : Hp → Hp) (iv Md : Nat → Prop) (Rd : List Nat) : Prop where
  eq : f σ = some ⟨put σ.s d u, F σ.h, σ.n, σ.base⟩
  pw : ∀ h h' b, h b = h' b → F h b = F h' b
  cls : ∀ b, iv b ∨ Md b ∨ (∀ h, F h b = h b) ∨ (b ∈ Rd ∧ ∀ h, F h b = frz1 (h b))
  has : ∀ b, b ∈ Rd ∨ Md b → σ.h b ≠ none
  move : ∀ σ2, ag σ σ2 → σ2.n = σ.n → σ2.base = σ.base → (∀ b ∈ Rd, Same (σ.h b) (σ2.h b)) → (∀ b, Md b → σ2.h b = σ.h b) → f σ2 = some ⟨put σ2.s d u, F σ2.h, σ2.n, σ2.base⟩
def AOp.isCall : AOp → Bool
  | .call _ _ _ _ _ | .callv _ _ _ _ _ => true
  | _ => false
def AOp.easy : AOp → Bool
  | .stn _ _ _ | .clr _ _ _ | .dcall _ _ _ | .dcallv _ _ _ | .apb _ _ _ _ _ | .callx _ _ _ _ _ | .dcs _ _ _ | .no _ => false
  | _ => true
def AOp.quiet : AOp → Bool
  | .ld _ _ _ _ | .cbs _ _ _ => true
  | _ => false
def AOp.isDc : AOp → Bool
  | .dcall _ _ _ | .dcallv _ _ _ => true
  | _ => false
def AOp.rdOpds : AOp → List Opd
  | .ld _ _ _ p => [p] | .cbs _ _ x => [x] | .bsl _ _ _ _ xs => xs | .app _ _ _ _ x => [x] | .st _ _ x => [x]
  | _ => []
def AOp.mdOpds : AOp → List Opd
  | .app _ _ _ s _ => [s] | .st _ p _ => [p]
  | _ => []
def nmP : A → List Nat
  | .ptr c _ _ => [c]
  | .fn _ caps => nmIns caps
  | _ => []
def RchV (h : Hp) (a : A) (b : Nat) : Prop := b ∈ nmX a ∨ ∃ c ∈ nmP a, b = c ∨ ∃ (k : Blk) (i : Nat) (row : List A), h c = some k ∧ k.rows[i]? = some row ∧ b ∈ nmCells row
def Rch (τ : St) (op : AOp) (b : Nat) : Prop := ∃ x ∈ op.opds, RchV τ.h (ev τ x) b
def agOp (op : AOp) (σ σ2 : St) : Prop := ∀ x ∈ op.opds, ev σ2 x = ev σ x
structure LocX (τ : St) (op : AOp) (iv Md : Nat → Prop) (Rd : List Nat) : Prop where
  ivs : ∀ b, iv b → span (τ.n + op.names.1) op.names.2 b
  rdx : ∀ b ∈ Rd, (op.isCall = true ∧ Rch τ op b) ∨ ∃ x ∈ op.rdOpds, b ∈ nmX (ev τ x)
  mdx : ∀ b, Md b → ∃ y ∈ op.mdOpds, b ∈ nmIn (ev τ y)
structure LocC (τ : St) (op : AOp) (iv Md : Nat → Prop) (Rd : List Nat) : Prop where
  ivs : ∀ b, iv b → span (τ.n + op.names.1) op.names.2 b
  rdx : ∀ b ∈ Rd, (op.isCall = true ∧ Rch τ op b) ∨ ∃ x ∈ op.rdOpds, b ∈ nmX (ev τ x)
  mdx : ∀ b, Md b → ∃ y ∈ op.mdOpds, b ∈ nmIn (ev τ y)
  call : ∀ d nm w f xs, op = .call d nm w f xs → ∀ b ∈ nmVals τ.h (evs τ xs), b ∈ Rd := by nofun
theorem LocC.x {τ : St} {op : AOp} {iv Md : Nat → Prop} {Rd : List Nat} (l : LocC τ op iv Md Rd) : LocX τ op iv Md Rd := ⟨l.ivs, l.rdx, l.mdx⟩
variable {h : Hp} {σ σ' σ2 : St} {E : Env} {tot : Nat}
theorem nmPtr_rch {a : A} {b : Nat} (hb : b ∈ nmPtr h a) : ∃ c ∈ nmIn a, b = c ∨ ∃ (k : Blk) (i : Nat) (row : List A), h c = some k ∧ k.rows[i]? = some row ∧ b ∈ nmCells row := by
  cases a with
  | ptr c i j =>
    simp only [nmPtr] at hb
    split at hb
    · rename_i k hk
      rcases List.mem_cons.1 hb with rfl | hb
      · exact ⟨b, by simp [nmIn], .inl rfl⟩
      · refine ⟨c, by simp [nmIn], .inr ⟨k, i, k.rows.getD i [], hk, ?_, hb⟩⟩
        rw [List.getD_eq_getElem?_getD]
        rw [List.getD_eq_getElem?_getD] at hb
        cases hr : k.rows[i]? with
        | none => rw [hr] at hb; simp [nmCells] at hb
        | some r => rfl
    · simp at hb
  | _ => simp [nmPtr] at hb
theorem nmPtrs_rch : ∀ {as : List A} {b : Nat}, b ∈ nmPtrs h as → ∃ c ∈ nmIns as, b = c ∨ ∃ (k : Blk) (i : Nat) (row : List A), h c = some k ∧ k.rows[i]? = some row ∧ b ∈ nmCells row
  | [], b, hb => by simp [nmPtrs] at hb
  | a :: as, b, hb => by
    simp only [nmPtrs, List.mem_append] at hb
    rcases hb with hb | hb
    · obtain ⟨c, hc, r⟩ := nmPtr_rch hb
      exact ⟨c, by simp [nmIns, hc], r⟩
    · obtain ⟨c, hc, r⟩ := nmPtrs_rch hb
      exact ⟨c, by simp [nmIns, hc], r⟩
theorem nmVal_rch {a : A} {b : Nat} (hb : b ∈ nmVal h a) : RchV h a b := by
  cases a with
  | agg cs => exact .inl (by simp only [nmX, A.cells, List.mem_append]; exact .inr hb)
  | fn f caps => exact .inr (nmPtrs_rch hb)
  | ptr c i j =>
    obtain ⟨c', hc, r⟩ := nmPtr_rch (show b ∈ nmPtr h (.ptr c i j) from hb)
    exact .inr ⟨c', hc, r⟩
  | ref ty c off len cap ex => exact .inl (by simp only [nmX, nmIn, List.mem_append]; exact .inl hb)
  | _ => simp [nmVal, nmCell] at hb
theorem nmVals_rch : ∀ {as : List A} {b : Nat}, b ∈ nmVals h as → ∃ a ∈ as, RchV h a b
  | [], b, hb => by simp [nmVals] at hb
  | a :: as, b, hb => by
    simp only [nmVals, List.mem_append] at hb
    rcases hb with hb | hb
    · exact ⟨a, by simp, nmVal_rch hb⟩
    · obtain ⟨c, hc, r⟩ := nmVals_rch hb
      exact ⟨c, by simp [hc], r⟩
theorem evs_mem : ∀ {xs : List Opd} {a : A}, a ∈ evs σ xs → ∃ x ∈ xs, a = ev σ x
  | [], a, h => by simp [evs] at h
  | x :: xs, a, h => by
    simp only [evs, List.mem_cons] at h
    rcases h with rfl | h
    · exact ⟨x, by simp, rfl⟩
    · obtain ⟨y, hy, e⟩ := evs_mem h
      exact ⟨y, by simp [hy], e⟩
theorem nmRows_mem : ∀ {xs : List Opd} {b : Nat}, b ∈ nmRows σ xs → ∃ x ∈ xs, b ∈ nmX (ev σ x)
  | [], b, h => by simp [nmRows] at h
  | x :: xs, b, h => by
    simp only [nmRows, List.mem_append] at h
    rcases h with h | h
    · exact ⟨x, by simp, by simp [nmX, h]⟩
    · obtain ⟨y, hy, e⟩ := nmRows_mem h
      exact ⟨y, by simp [hy], e⟩
def noN : Nat → Prop := fun _ => False
theorem LocE.quiet {f : St → Option St} {ag : St → St → Prop} {d : Option Nat} {u : A} {Rd : List Nat} (e : f σ = some ⟨put σ.s d u, σ.h, σ.n, σ.base⟩) (has : ∀ b ∈ Rd, σ.h b ≠ none)
    (mv : ∀ σ2, ag σ σ2 → σ2.n = σ.n → σ2.base = σ.base → (∀ b ∈ Rd, Same (σ.h b) (σ2.h b)) → f σ2 = some ⟨put σ2.s d u, σ2.h, σ2.n, σ2.base⟩) : LocE f ag σ d u (fun h => h) noN noN Rd :=
  ⟨e, fun h h' b e => e, fun b => .inr (.inr (.inl fun h => rfl)), fun b hb => by rcases hb with hb | hb; exact has b hb; exact hb.elim, fun σ2 a b c d' _ => mv σ2 a b c d'⟩
theorem viCells_fst : ∀ (zs : List A) (h h' : Hp) (n : Nat), (viCells h n zs).1 = (viCells h' n zs).1
  | [], h, h', n => rfl
  | z :: zs, h, h', n => by
    cases z <;> simp only [viCells] <;> first | rw [viCells_fst zs _ (upd h' n _) (n + 1)] | rw [viCells_fst zs h h' n]
theorem viCells_pw : ∀ (zs : List A) (h h' : Hp) (n b : Nat), h b = h' b → (viCells h n zs).2 b = (viCells h' n zs).2 b
  | [], h, h', n, b, e => e
  | z :: zs, h, h', n, b, e => by
    cases z <;> simp only [viCells] <;> first | exact viCells_pw zs h h' n b e | (refine viCells_pw zs _ _ (n + 1) b ?_; unfold upd; split <;> first | rfl | exact e)
theorem viCells_out : ∀ (zs : List A) (h : Hp) (n b : Nat), ¬ span n (zs.filter hasLit).length b → (viCells h n zs).2 b = h b
  | [], h, n, b, _ => rfl
  | z :: zs, h, n, b, hb => by
    cases z with
    | lit ty r =>
      have hl : ((A.lit ty r :: zs).filter hasLit).length = (zs.filter hasLit).length + 1 := by simp [List.filter_cons, hasLit]
      rw [hl] at hb
      simp only [viCells]
      rw [viCells_out zs _ (n + 1) b (by simp only [span] at hb ⊢; omega), upd, if_neg (by simp only [span] at hb; omega)]
    | _ => simp only [viCells]; exact viCells_out zs h n b (by simpa [List.filter_cons, hasLit] using hb)
theorem laVals_at1 (as : List A) (h h' : Hp) (n : Nat) : (laVals h n as).1 = (laVals h' n as).1 := by
  rw [(laVals_at as h n).1, (laVals_at as h' n).1]
theorem laVals_pw (as : List A) (h h' : Hp) (n b : Nat) (e : h b = h' b) : (laVals h n as).2 b = (laVals h' n as).2 b := by
  rw [(laVals_at as h n).2, (laVals_at as h' n).2]
  unfold over
  split
  · rfl
  · exact e
theorem laCells_out : ∀ (as : List A) (h : Hp) (n b : Nat), ¬ span n (olits as) b → (laCells h n as).2 b = h b
  | [], h, n, b, _ => rfl
  | a :: as, h, n, b, hb => by
    cases a with
    | olit ty r =>
      simp only [olits] at hb
      simp only [laCells]
      rw [laCells_out as _ (n + 1) b (by simp only [span] at hb ⊢; omega), upd, if_neg (by simp only [span] at hb; omega)]
    | _ => simp only [laCells]; exact laCells_out as h n b (by simpa [olits] using hb)
theorem laVal_out (a : A) (h : Hp) (n b : Nat) (hb : ¬ span n (olitsV a) b) : (laVal h n a).2 b = h b := by
  cases a with
  | agg cs => exact laCells_out cs h n b hb
  | olit ty r => simp only [laVal]; rw [upd, if_neg (by simp only [span, olitsV] at hb; omega)]
  | _ => rfl
theorem laVals_out : ∀ (as : List A) (h : Hp) (n b : Nat), ¬ span n (olitsAll as) b → (laVals h n as).2 b = h b
  | [], h, n, b, _ => rfl
  | a :: as, h, n, b, hb => by
    simp only [laVals, olitsAll] at hb ⊢
    rw [laVals_out as _ _ b (by simp only [span] at hb ⊢; omega), laVal_out a h n b (by simp only [span] at hb ⊢; omega)]
theorem clVals_has {as cs : List A} (e : clVals h as = some cs) : ∀ b ∈ nmVals h as, h b ≠ none := by
  -- with itself in the place of the other heap, wherever a row is missing the closing fails
  have cell : ∀ {a c : A}, clCell h a = some c → ∀ b ∈ nmCell a, h b ≠ none := by
    intro a c e b hb
    cases a with
    | ref ty b' off len cap ex =>
      obtain ⟨k, hk, _⟩ := bnd_eq e
      simp [nmCell] at hb; subst hb; rw [hk]; simp
    | _ => simp [nmCell] at hb
  have cells : ∀ {as cs : List A}, clCells h as = some cs → ∀ b ∈ nmCells as, h b ≠ none := by
    intro as
    induction as with
    | nil => intro cs e b hb; simp [nmCells] at hb
    | cons a as ih =>
      intro cs e b hb
      obtain ⟨c, hc, e1⟩ := bnd_eq e
      obtain ⟨cs', hcs, _⟩ := bnd_eq e1
      simp only [nmCells, List.mem_append] at hb
      rcases hb with hb | hb
      · exact cell hc b hb
      · exact ih hcs b hb
  have ptr : ∀ {a c : A}, clPtr h a = some c → ∀ b ∈ nmPtr h a, h b ≠ none := by
    intro a c e b hb
    cases a with
    | ptr b' i j =>
      obtain ⟨k, hk, e1⟩ := bnd_eq e
      obtain ⟨row, hrow, e2⟩ := bnd_eq e1
      obtain ⟨cs, hcs, _⟩ := bnd_eq e2
      have hnm : nmPtr h (.ptr b' i j) = b' :: nmCells row := by simp [nmPtr, hk, hrow]
      rw [hnm] at hb
      rcases List.mem_cons.1 hb with rfl | hb
      · rw [hk]; simp
      · exact cells hcs b hb
    | _ => simp [nmPtr] at hb
  have ptrs : ∀ {as cs : List A}, clPtrs h as = some cs → ∀ b ∈ nmPtrs h as, h b ≠ none := by
    intro as
    induction as with
    | nil => intro cs e b hb; simp [nmPtrs] at hb
    | cons a as ih =>
      intro cs e b hb
      obtain ⟨c, hc, e1⟩ := bnd_eq e
      obtain ⟨cs', hcs, _⟩ := bnd_eq e1
      simp only [nmPtrs, List.mem_append] at hb
      rcases hb with hb | hb
      · exact ptr hc b hb
      · exact ih hcs b hb
  have val : ∀ {a c : A}, clVal h a = some c → ∀ b ∈ nmVal h a, h b ≠ none := by
    intro a c e b hb
    cases a with
    | agg cs => obtain ⟨ds, hds, _⟩ := bnd_eq e; exact cells hds b hb
    | fn f caps => obtain ⟨ds, hds, _⟩ := bnd_eq e; exact ptrs hds b hb
    | ptr b' i j => exact ptr (show clPtr h (.ptr b' i j) = some c from e) b hb
    | ref ty b' off len cap ex => exact cell (show clCell h (.ref ty b' off len cap ex) = some c from e) b hb
    | _ => simp [nmVal, nmCell] at hb
  induction as generalizing cs with
  | nil => intro b hb; simp [nmVals] at hb
  | cons a as ih =>
    intro b hb
    obtain ⟨c, hc, e1⟩ := bnd_eq e
    obtain ⟨cs', hcs, _⟩ := bnd_eq e1
    simp only [nmVals, List.mem_append] at hb
    rcases hb with hb | hb
    · exact val hc b hb
    · exact ih hcs b hb
theorem call_loc {d : Option Nat} {nm w : Nat} {ag : St → St → Prop} {f : St → Option St} {as : List A} {fn : Nat} (hf : f σ = doCall E σ d nm w fn as) (hag : ∀ σ2, ag σ σ2 → σ2.n = σ.n → σ2.base = σ.base → f σ2 = doCall E σ2 d nm w fn as)
    (e : f σ = some σ') : ∃ u F rs, σ' = ⟨put σ.s d u, F σ.h, σ.n, σ.base⟩ ∧ olitsAll rs ≤ w ∧ LocE f ag σ d u F (span (σ.n + nm) (olitsAll rs)) noN (nmVals σ.h as) := by
  have e' := e
  rw [hf] at e
  unfold doCall at e
  obtain ⟨cs, hcs, e1⟩ := bnd_eq e
  obtain ⟨rs, hrs, e2⟩ := bnd_eq e1
  split at e2
  · cases e2
  · rename_i hw
    simp only [Option.some.injEq] at e2
    have p3 := clVals_has hcs
    have haft : ∀ h2 : Hp, nmVals h2 as = nmVals σ.h as → aft h2 as rs = if anySl rs then frz h2 (nmVals σ.h as) else h2 := fun h2 q => by unfold aft; rw [q]
    refine ⟨pack (laVals (aft σ.h as rs) (σ.n + nm) rs).1, fun h => (laVals (if anySl rs then frz h (nmVals σ.h as) else h) (σ.n + nm) rs).2, rs, ?_, by omega, ⟨?_, fun h h' b q => ?_, fun b => ?_, fun b hb => ?_, fun σ2 h1 h2 h3 h4 _ => ?_⟩⟩
    · rw [← e2, haft σ.h rfl]
    · rw [e', ← e2, haft σ.h rfl]
    · refine laVals_pw _ _ _ _ _ ?_
      split
      · rw [frz_one, frz_one, q]
      · exact q
    · by_cases hs : span (σ.n + nm) (olitsAll rs) b
      · exact .inl hs
      · refine .inr (.inr ?_)
        by_cases ha : anySl rs = true
        · by_cases hb : b ∈ nmVals σ.h as
          · exact .inr ⟨hb, fun h => by rw [laVals_out _ _ _ _ hs, if_pos ha, frz_one, if_pos hb]⟩
          · exact .inl fun h => by rw [laVals_out _ _ _ _ hs, if_pos ha, frz_one, if_neg hb]
        · exact .inl fun h => by rw [laVals_out _ _ _ _ hs, if_neg ha]
    · rcases hb with hb | hb
      · exact p3 b hb
      · exact hb.elim
    · rw [hag σ2 h1 h2 h3]
      obtain ⟨q1, q2, q3⟩ := clVals_same hcs h4
      unfold doCall
      simp only [q1, bnd, hrs]
      rw [if_neg hw, haft σ2.h q2, h2, h3]
      congr 2
      rw [laVals_at1 rs _ (aft σ.h as rs)]
end Go.Vm

/-
  The local effect of each operation.
-/
set_option linter.unusedVariables false
set_option linter.unusedSimpArgs false
namespace Go.Vm
open Go.RowKit
variable {h : Hp} {σ σ' σ2 : St} {E : Env} {tot : Nat}
theorem rdV_x {get : Opd → Option A} {op : AOp} {τ : St} (hh : τ.h = h) (hc : ∀ x ∈ op.opds, ∀ v, get x = some v → v = ev τ x) (hop : op.isCall = false) : ∀ b ∈ rdV h get op, ∃ x ∈ op.rdOpds, b ∈ nmX (ev τ x) := by
  intro b hb
  cases op with
  | ld d n g p =>
    simp only [rdV] at hb
    split at hb
    · rename_i v hv
      exact ⟨p, by simp [AOp.rdOpds], by rw [← hc p (by simp [AOp.opds]) v hv]; simp [nmX, hb]⟩
    · simp at hb
  | cbs d t x =>
    simp only [rdV] at hb
    split at hb
    · rename_i v hv
      exact ⟨x, by simp [AOp.rdOpds], by rw [← hc x (by simp [AOp.opds]) v hv]; simp [nmX, hb]⟩
    · simp at hb
  | call d nm w f xs => simp [AOp.isCall] at hop
  | _ => simp [rdV] at hb
theorem upd_pw {h h' : Hp} {n b : Nat} {x : Option Blk} (e : h b = h' b) : upd h n x b = upd h' n x b := by unfold upd; split <;> first | rfl | exact e
theorem upd_out {h : Hp} {n b : Nat} {x : Option Blk} (hb : b ≠ n) : upd h n x b = h b := by rw [upd, if_neg hb]
theorem clCells_has {as cs : List A} (e : clCells h as = some cs) : ∀ b ∈ nmCells as, h b ≠ none := by
  have := clVals_has (h := h) (as := [.agg as]) (cs := [.agg cs]) (by simp [clVals, clVal, e, bnd])
  intro b hb
  exact this b (by simp [nmVals, nmVal, hb])
theorem clRows_has {n : Nat} : ∀ {xs : List Opd} {rows : List (List A)}, clRows σ n xs = some rows → ∀ b ∈ nmRows σ xs, σ.h b ≠ none
  | [], rows, e, b, hb => by simp [nmRows] at hb
  | x :: xs, rows, e, b, hb => by
    simp only [clRows] at e
    split at e
    · obtain ⟨r, hr, e1⟩ := bnd_eq e
      obtain ⟨rs, hrs, e2⟩ := bnd_eq e1
      simp only [nmRows, List.mem_append] at hb
      rcases hb with hb | hb
      · exact clCells_has hr b hb
      · exact clRows_has hrs b hb
    · cases e
theorem rowsOf_has {t : Nat} {a : A} {r : List (List A)} (e : rowsOf t h a = some r) : ∀ b ∈ nmIn a, h b ≠ none := by
  intro b hb
  cases a with
  | ref ty b' off len cap ex =>
    obtain ⟨k, hk, _⟩ := bnd_eq e
    simp [nmIn] at hb; subst hb; rw [hk]; simp
  | ptr b' i j => simp [rowsOf] at e
  | _ => simp [nmIn] at hb
theorem rowAt_has {a : A} {r : List A × Nat} (e : rowAt h a = some r) : ∀ b ∈ nmIn a, h b ≠ none := by
  intro b hb
  cases a with
  | ptr b' i j =>
    obtain ⟨k, hk, _⟩ := bnd_eq e
    simp [nmIn] at hb; subst hb; rw [hk]; simp
  | ref ty b' off len cap ex => simp [rowAt] at e
  | _ => simp [nmIn] at hb
theorem valOp_has {get : Opd → Option A} {pk : Bool → Opd → Option Bool} {op : AOp} {u : A} (e : valOp E h get pk op = some u) : ∀ b ∈ rdV h get op, h b ≠ none := by
  intro b hb
  cases op with
  | ld d n g p =>
    simp only [valOp] at e
    obtain ⟨r, hr, e1⟩ := bnd_eq e
    obtain ⟨v, hv, hr⟩ := bnd_eq hr
    simp only [rdV, hv] at hb
    exact rowAt_has hr b hb
  | cbs d t x =>
    simp only [valOp] at e
    obtain ⟨l, hl, e1⟩ := bnd_eq e
    obtain ⟨r, hr, hl⟩ := bnd_eq hl
    obtain ⟨v, hv, hr⟩ := bnd_eq hr
    simp only [rdV, hv] at hb
    exact rowsOf_has hr b hb
  | call d nm w f xs =>
    simp only [valOp] at e
    obtain ⟨rs, hrs, e1⟩ := bnd_eq e
    obtain ⟨cs, hcs, hrs⟩ := bnd_eq hrs
    obtain ⟨as, has, hcs⟩ := bnd_eq hcs
    simp only [rdV, has] at hb
    exact clVals_has hcs b hb
  | _ => simp [rdV] at hb
theorem caps_rch {f : Nat} {caps : List A} {a : A} {b : Nat} (ha : a ∈ caps) (hr : RchV h a b) (hcp : areCaps caps = true) : RchV h (.fn f caps) b := by
  obtain ⟨i, hi⟩ := List.getElem?_of_mem ha
  have hca := caps_at hcp hi
  have hin : ∀ c ∈ nmIn a, c ∈ nmIns caps := fun c hc => nmIns_mem hi hc
  -- a pointer, or nothing that a closure captures
  cases a with
  | ptr c i j =>
    rcases hr with hr | ⟨c', hc', hr⟩
    · simp [nmX, nmIn, A.cells, nmCells, nmCell] at hr
      subst hr
      exact .inr ⟨b, hin b (by simp [nmIn]), .inl rfl⟩
    · exact .inr ⟨c', hin c' hc', hr⟩
  | pl r j =>
    rcases hr with hr | ⟨c', hc', hr⟩
    · simp [nmX, nmIn, A.cells, nmCells, nmCell] at hr
    · simp [nmP] at hc'
  | _ => simp [isCap] at hca
abbrev Res' (E : Env) (tot : Nat) (op : AOp) (σ σ' : St) : Prop :=
  ∃ u F iv Md Rd, σ' = ⟨put σ.s op.dst u, F σ.h, σ.n, σ.base⟩ ∧ LocE (step E tot op) (agOp op) σ op.dst u F iv Md Rd ∧ LocC σ op iv Md Rd
theorem LocC.none {op : AOp} (hc : op.isCall = false) : LocC σ op noN noN [] := ⟨fun b h => h.elim, fun b hb => by simp at hb, fun b h => h.elim, fun d nm w f xs e => by subst e; simp [AOp.isCall] at hc⟩
theorem rwRows_same {n : Nat} {σ σ2 : St} : ∀ {xs : List Opd}, (∀ y ∈ xs, ev σ2 y = ev σ y) → rwRows σ2 n xs = rwRows σ n xs
  | [], _ => rfl
  | x :: xs, h => by
    simp only [rwRows, h x List.mem_cons_self, rwRows_same (fun y hy => h y (List.mem_cons_of_mem _ hy))]
theorem plRows_same {n : Nat} {σ σ2 : St} : ∀ {xs : List Opd}, (∀ y ∈ xs, ev σ2 y = ev σ y) → plRows σ2 n xs = plRows σ n xs
  | [], _ => rfl
  | x :: xs, h => by
    simp only [plRows, h x List.mem_cons_self, plRows_same (fun y hy => h y (List.mem_cons_of_mem _ hy))]
theorem step_loc {op : AOp} (heasy : op.easy = true) (e : step E tot op σ = some σ') : Res' E tot op σ σ' := by
  cases op with
  | stn nm ty p => simp [AOp.easy] at heasy
  | clr t zs x => simp [AOp.easy] at heasy
  | dcall d f xs => simp [AOp.easy] at heasy
  | dcallv d y xs => simp [AOp.easy] at heasy
  | mkb d nm ty zs l c =>
    have e' := e
    simp only [step] at e'
    unfold mkbA at e'
    split at e'
    · rename_i k1 li k2 ci hl hcv
      split at e'
      · rename_i hc
        simp only [Option.some.injEq] at e'
        refine ⟨.ref ty (σ.n + nm) 0 li.toNat li.toNat true, fun h => upd h (σ.n + nm) (some ⟨ty, List.replicate li.toNat zs, true, true⟩), fun b => b = σ.n + nm, noN, [], e'.symm, ⟨by rw [e, ← e']; rfl, fun h h' b q => upd_pw q, fun b => ?_, fun b hb => by rcases hb with hb | hb; simp at hb; exact hb.elim, fun σ2 h1 h2 h3 _ _ => ?_⟩, ⟨fun b hb => by subst hb; simp [AOp.names, span], fun b hb => by simp at hb, fun b h => h.elim, nofun⟩⟩
        · by_cases hb : b = σ.n + nm
          · exact .inl hb
          · exact .inr (.inr (.inl fun h => upd_out hb))
        · simp only [step, h1 l (by simp [AOp.opds]), h1 c (by simp [AOp.opds]), hl, hcv, mkbA, h2, h3]
          rw [if_pos hc]; rfl
      · cases e'
    · cases e'
  | bsb d nm ty n xs =>
    have e' := e
    simp only [step] at e'
    obtain ⟨rows, hrows, e1⟩ := bnd_eq e'
    simp only [Option.some.injEq] at e1
    refine ⟨.ref ty (σ.n + nm) 0 rows.length rows.length true, fun h => upd h (σ.n + nm) (some ⟨ty, rows, true, true⟩), fun b => b = σ.n + nm, noN, [], e1.symm, ⟨by rw [e, ← e1]; rfl, fun h h' b q => upd_pw q, fun b => ?_, fun b hb => by rcases hb with hb | hb; simp at hb; exact hb.elim, fun σ2 h1 h2 h3 _ _ => ?_⟩, ⟨fun b hb => by subst hb; simp [AOp.names, span], fun b hb => by simp at hb, fun b h => h.elim, nofun⟩⟩
    · by_cases hb : b = σ.n + nm
      · exact .inl hb
      · exact .inr (.inr (.inl fun h => upd_out hb))
    · have q : rwRows σ2 n xs = some rows := by rw [← hrows]; exact rwRows_same (fun y hy => h1 y (by simpa [AOp.opds] using hy))
      simp only [step, q, h2, h3, bnd]; rfl
  | bll d ty n xs =>
    have e' := e
    simp only [step] at e'
    obtain ⟨rows, hrows, e1⟩ := bnd_eq e'
    simp only [Option.some.injEq] at e1
    refine ⟨.lit ty rows, fun h => h, noN, noN, [], e1.symm, LocE.quiet (by rw [e, ← e1]; rfl) (fun b hb => by simp at hb) (fun σ2 h1 h2 h3 _ => ?_), LocC.none rfl⟩
    have q : plRows σ2 n xs = some rows := by rw [← hrows]; exact plRows_same (fun y hy => h1 y (by simpa [AOp.opds] using hy))
    simp only [step, q, bnd]; rfl
  | apb d nm t s x => simp [AOp.easy] at heasy
  | callx d nm w f xs => simp [AOp.easy] at heasy
  | dcs d f xs => simp [AOp.easy] at heasy
  | no why => simp [AOp.easy] at heasy
  | mvn d nm ty =>
    have e' := e
    simp only [step, Option.some.injEq] at e'
    refine ⟨_, fun h => upd h (σ.n + nm) (some ⟨ty, [], true, false⟩), fun b => b = σ.n + nm, noN, [], e'.symm, ⟨by rw [e, ← e']; rfl, fun h h' b q => upd_pw q, fun b => ?_, fun b hb => by rcases hb with hb | hb; simp at hb; exact hb.elim, fun σ2 _ h2 h3 _ _ => ?_⟩, ⟨fun b hb => by subst hb; simp [AOp.names, span], fun b hb => by simp at hb, fun b h => h.elim, nofun⟩⟩
    · by_cases hb : b = σ.n + nm
      · exact .inl hb
      · exact .inr (.inr (.inl fun h => upd_out hb))
    · simp only [step, h2, h3, put]; rfl
  | al d nm ty zs =>
    have e' := e
    simp only [step, Option.some.injEq] at e'
    refine ⟨.ptr (σ.n + nm) 0 0, fun h => upd (viCells h (σ.n + nm + 1) zs).2 (σ.n + nm) (some ⟨ty, [(viCells σ.h (σ.n + nm + 1) zs).1], true, true⟩), span (σ.n + nm) (1 + (zs.filter hasLit).length), noN, [], e'.symm,
      ⟨by rw [e, ← e']; rfl, fun h h' b q => upd_pw (viCells_pw _ _ _ _ _ q), fun b => ?_, fun b hb => by rcases hb with hb | hb; simp at hb; exact hb.elim, fun σ2 _ h2 h3 _ _ => ?_⟩, ⟨fun b hb => by simpa [AOp.names] using hb, fun b hb => by simp at hb, fun b h => h.elim, nofun⟩⟩
    · by_cases hb : span (σ.n + nm) (1 + (zs.filter hasLit).length) b
      · exact .inl hb
      · refine .inr (.inr (.inl fun h => ?_))
        rw [upd_out (by simp only [span] at hb; omega), viCells_out _ _ _ _ (by simp only [span] at hb ⊢; omega)]
    · simp only [step, h2, h3, put]
      rw [viCells_fst zs σ2.h σ.h]; rfl
  | box d nm ty n x =>
    have e' := e
    simp only [step] at e'
    split at e'
    · rename_i hc
      simp only [Option.some.injEq] at e'
      refine ⟨.ptr (σ.n + nm) 0 0, fun h => upd h (σ.n + nm) (some ⟨ty, [(ev σ x).cells], true, true⟩), fun b => b = σ.n + nm, noN, [], e'.symm, ⟨by rw [e, ← e']; rfl, fun h h' b q => upd_pw q, fun b => ?_, fun b hb => by rcases hb with hb | hb; simp at hb; exact hb.elim, fun σ2 h1 h2 h3 _ _ => ?_⟩, ⟨fun b hb => by subst hb; simp [AOp.names, span], fun b hb => by simp at hb, fun b h => h.elim, nofun⟩⟩
      · by_cases hb : b = σ.n + nm
        · exact .inl hb
        · exact .inr (.inr (.inl fun h => upd_out hb))
      · simp only [step, h2, h3, put, h1 x (by simp [AOp.opds])]
        rw [if_pos hc]; rfl
    · cases e'
  | bld d nm zs ps =>
    have e' := e
    simp only [step] at e'
    obtain ⟨cs, hcs, e1⟩ := bnd_eq e'
    simp only [Option.some.injEq] at e1
    refine ⟨.agg cs, fun h => (viCells h (σ.n + nm) zs).2, span (σ.n + nm) (zs.filter hasLit).length, noN, [], e1.symm,
      ⟨by rw [e, ← e1]; rfl, fun h h' b q => viCells_pw _ _ _ _ _ q, fun b => ?_, fun b hb => by rcases hb with hb | hb; simp at hb; exact hb.elim, fun σ2 h1 h2 h3 _ _ => ?_⟩, ⟨fun b hb => by simpa [AOp.names] using hb, fun b hb => by simp at hb, fun b h => h.elim, nofun⟩⟩
    · by_cases hb : span (σ.n + nm) (zs.filter hasLit).length b
      · exact .inl hb
      · exact .inr (.inr (.inl fun h => viCells_out _ _ _ _ hb))
    · simp only [step, h2, h3, put]
      rw [viCells_fst zs σ2.h σ.h, fills_same (σ := σ) (fun y hy => h1 y hy), hcs]; rfl
  | bsl d nm ty n xs =>
    have e' := e
    simp only [step] at e'
    obtain ⟨rows, hrows, e1⟩ := bnd_eq e'
    simp only [Option.some.injEq] at e1
    have hhas : ∀ b ∈ nmRows σ xs, σ.h b ≠ none := clRows_has hrows
    refine ⟨.ref ty (σ.n + nm) 0 rows.length rows.length true, fun h => frz (upd h (σ.n + nm) (some ⟨ty, rows, true, false⟩)) (nmRows σ xs), fun b => b = σ.n + nm, noN, nmRows σ xs, e1.symm,
      ⟨by rw [e, ← e1]; rfl, fun h h' b q => ?_, fun b => ?_, fun b hb => by rcases hb with hb | hb; exact hhas b hb; exact hb.elim, fun σ2 h1 h2 h3 h4 _ => ?_⟩, ⟨fun b hb => by subst hb; simp [AOp.names, span], fun b hb => .inr (nmRows_mem hb), fun b h => h.elim, nofun⟩⟩
    · simp only [frz_one]; rw [upd_pw q]
    · by_cases hb : b = σ.n + nm
      · exact .inl hb
      · by_cases hm : b ∈ nmRows σ xs
        · exact .inr (.inr (.inr ⟨hm, fun h => by rw [frz_one, if_pos hm, upd_out hb]⟩))
        · exact .inr (.inr (.inl fun h => by rw [frz_one, if_neg hm, upd_out hb]))
    · obtain ⟨q1, _⟩ := clRows_same hrows h1 h4
      simp only [step, h2, h3, put, q1, bnd]
      rw [nmRows_same (σ := σ) (xs := xs) h1]; rfl
  | st n p x =>
    have e' := e
    simp only [step] at e'
    obtain ⟨hh, hst, e1⟩ := bnd_eq e'
    simp only [Option.some.injEq] at e1
    have hp : ∀ σ2, agOp (.st n p x) σ σ2 → ev σ2 p = ev σ p ∧ ev σ2 x = ev σ x := fun σ2 q => ⟨q p (by simp [AOp.opds]), q x (by simp [AOp.opds])⟩
    have hst' := hst
    unfold storeAt at hst'
    split at hst'
    · rename_i b i j hpe
      obtain ⟨k, hk, f1⟩ := bnd_eq hst'
      obtain ⟨row, hrow, f2⟩ := bnd_eq f1
      unfold storeRow at f2
      split at f2
      · rename_i hc
        split at f2
        · rename_i hbox
          split at f2
          · cases f2
          · rename_i hfar
            simp only [Option.some.injEq] at f2
            refine ⟨.und, fun h => upd h b (some { k with rows := k.rows.set i (setSeg row j (ev σ x).cells) }), noN, fun c => c = b, [], by rw [← e1, ← f2]; rfl,
              ⟨by rw [e, ← e1, ← f2]; rfl, fun h h' b q => upd_pw q, fun c => ?_, fun c hc => by rcases hc with hc | hc; simp at hc; subst hc; rw [hk]; simp, fun σ2 h1 h2 h3 _ h5 => ?_⟩, ⟨fun b h => h.elim, fun b hb => by simp at hb, fun c hc => ⟨p, by simp [AOp.mdOpds], by rw [hc, hpe]; simp [nmIn]⟩, nofun⟩⟩
            · by_cases hb : c = b
              · exact .inr (.inl hb)
              · exact .inr (.inr (.inl fun h => upd_out hb))
            · obtain ⟨g1, g2⟩ := hp σ2 h1
              have hk2 : σ2.h b = some k := (h5 b rfl).trans hk
              simp only [step, g1, g2, hpe, storeAt, hk2, bnd, hrow, storeRow, h2, h3]
              rw [if_pos hc, if_pos hbox, if_neg hfar]; rfl
        · rename_i hbox
          obtain ⟨cs, hcs, f3⟩ := bnd_eq f2
          simp only [Option.some.injEq] at f3
          have hhas := (clCells_has hcs)
          refine ⟨.und, fun h => frz (upd h b (some { k with rows := k.rows.set i (setSeg row j cs) })) (nmCells (ev σ x).cells), noN, fun c => c = b, nmCells (ev σ x).cells, by rw [← e1, ← f3]; rfl,
              ⟨by rw [e, ← e1, ← f3]; rfl, fun h h' b q => ?_, fun c => ?_, fun c hc => ?_, fun σ2 h1 h2 h3 h4 h5 => ?_⟩, ⟨fun b h => h.elim, fun c hc => .inr ⟨x, by simp [AOp.rdOpds], by simp [nmX, hc]⟩, fun c hc => ⟨p, by simp [AOp.mdOpds], by rw [hc, hpe]; simp [nmIn]⟩, nofun⟩⟩
          · simp only [frz_one]; rw [upd_pw q]
          · by_cases hb : c = b
            · exact .inr (.inl hb)
            · by_cases hm : c ∈ nmCells (ev σ x).cells
              · exact .inr (.inr (.inr ⟨hm, fun h => by rw [frz_one, if_pos hm, upd_out hb]⟩))
              · exact .inr (.inr (.inl fun h => by rw [frz_one, if_neg hm, upd_out hb]))
          · rcases hc with hc | hc
            · exact hhas c hc
            · subst hc; rw [hk]; simp
          · obtain ⟨g1, g2⟩ := hp σ2 h1
            have hk2 : σ2.h b = some k := (h5 b rfl).trans hk
            obtain ⟨q1, _⟩ := clCells_same hcs h4
            simp only [step, g1, g2, hpe, storeAt, hk2, bnd, hrow, storeRow, h2, h3]
            rw [if_pos hc, if_neg hbox, q1]; rfl
      · cases f2
    · cases hst'
  | mkf d f caps =>
    have e' := e
    simp only [step] at e'
    split at e'
    · rename_i hc
      simp only [Option.some.injEq] at e'
      refine ⟨.fn f (evs σ caps), fun h => h, noN, noN, [], e'.symm, LocE.quiet (by rw [e, ← e']; rfl) (fun b hb => by simp at hb) (fun σ2 h1 h2 h3 _ => ?_), LocC.none rfl⟩
      simp only [step, evs_same (σ := σ) (xs := caps) (fun y hy => h1 y hy)]
      rw [if_pos hc]; rfl
    · cases e'
  | mks d nm ty zs l c =>
    have e' := e
    simp only [step] at e'
    unfold mksA at e'
    split at e'
    · rename_i k1 li k2 ci hl hcv
      split at e'
      · rename_i hc
        simp only [Option.some.injEq] at e'
        refine ⟨.ref ty (σ.n + nm) 0 li.toNat li.toNat true, fun h => upd h (σ.n + nm) (some ⟨ty, List.replicate li.toNat zs, true, false⟩), fun b => b = σ.n + nm, noN, [], e'.symm, ⟨by rw [e, ← e']; rfl, fun h h' b q => upd_pw q, fun b => ?_, fun b hb => by rcases hb with hb | hb; simp at hb; exact hb.elim, fun σ2 h1 h2 h3 _ _ => ?_⟩, ⟨fun b hb => by subst hb; simp [AOp.names, span], fun b hb => by simp at hb, fun b h => h.elim, nofun⟩⟩
        · by_cases hb : b = σ.n + nm
          · exact .inl hb
          · exact .inr (.inr (.inl fun h => upd_out hb))
        · simp only [step, h1 l (by simp [AOp.opds]), h1 c (by simp [AOp.opds]), hl, hcv, mksA, h2, h3]
          rw [if_pos hc]; rfl
      · cases e'
    · cases e'
  | sl d t x lo hi mx =>
    have e' := e
    simp only [step] at e'
    obtain ⟨u, hu, e1⟩ := bnd_eq e'
    simp only [Option.some.injEq] at e1
    refine ⟨u, fun h => h, noN, noN, [], e1.symm, LocE.quiet (by rw [e, ← e1]; rfl) (fun b hb => by simp at hb) (fun σ2 h1 h2 h3 _ => ?_), LocC.none rfl⟩
    have hm : ∀ y, y ∈ lo.toList ∨ y ∈ hi.toList ∨ y ∈ mx.toList → ev σ2 y = ev σ y := fun y hy => h1 y (by
      simp only [AOp.opds, List.mem_cons, List.mem_append]
      rcases hy with hy | hy | hy
      · exact .inr (.inl (.inl hy))
      · exact .inr (.inl (.inr hy))
      · exact .inr (.inr hy))
    simp only [step, h1 x (by simp [AOp.opds])]
    rw [sliceA_same (σ := σ) (fun y hy => hm y (.inl hy)) (fun y hy => hm y (.inr (.inl hy))) (fun y hy => hm y (.inr (.inr hy))), hu]; rfl
  | call d nm w f xs =>
    obtain ⟨u, F, rs, h1, h2, h3⟩ := call_loc (E := E) (σ := σ) (f := step E tot (.call d nm w f xs)) (ag := agOp (.call d nm w f xs)) (as := evs σ xs) (fn := f) (d := d) (nm := nm) (w := w) rfl (fun σ2 q _ _ => by simp only [step, evs_same (σ := σ) (xs := xs) (fun y hy => q y hy)]) e
    refine ⟨u, F, _, noN, _, h1, h3, ⟨fun b hb => by simp only [AOp.names, span] at hb ⊢; omega, fun b hb => .inl ⟨rfl, ?_⟩, fun b h => h.elim, fun d nm w f xs e b hb => by cases e; exact hb⟩⟩
    obtain ⟨a, ha, hr⟩ := nmVals_rch hb
    obtain ⟨x, hx, rfl⟩ := evs_mem ha
    exact ⟨x, hx, hr⟩
  | callv d nm w y xs =>
    have e' := e
    simp only [step] at e'
    obtain ⟨p, hp, e1⟩ := bnd_eq e'
    obtain ⟨u, F, rs, h1, h2, h3⟩ := call_loc (E := E) (σ := σ) (f := step E tot (.callv d nm w y xs)) (ag := agOp (.callv d nm w y xs)) (as := evs σ xs ++ p.2) (fn := p.1) (d := d) (nm := nm) (w := w) (by simp only [step, hp, bnd])
      (fun σ2 q _ _ => by simp only [step, evs_same (σ := σ) (xs := xs) (fun z hz => q z (by simp [AOp.opds, hz])), q y (by simp [AOp.opds]), hp, bnd]) e
    refine ⟨u, F, _, noN, _, h1, h3, ⟨fun b hb => by simp only [AOp.names, span] at hb ⊢; omega, fun b hb => .inl ⟨rfl, ?_⟩, fun b h => h.elim, nofun⟩⟩
    obtain ⟨a, ha, hr⟩ := nmVals_rch hb
    rcases List.mem_append.1 ha with ha | ha
    · obtain ⟨x, hx, rfl⟩ := evs_mem ha
      exact ⟨x, by simp [AOp.opds, hx], hr⟩
    · refine ⟨y, by simp [AOp.opds], ?_⟩
      have hy : ev σ y = .fn p.1 p.2 := by
        cases hv : ev σ y with
        | fn f caps =>
          rw [hv] at hp
          simp only [fnA] at hp
          cases hcp : areCaps caps with
          | false => rw [hcp] at hp; cases hp
          | true => rw [hcp] at hp; simp only [cond_true, Option.some.injEq] at hp; rw [← hp]
        | _ => rw [hv] at hp; simp [fnA] at hp
      have hcp : areCaps p.2 = true := by
        rw [hy] at hp
        simp only [fnA] at hp
        cases hcp : areCaps p.2 with
        | false => rw [hcp] at hp; cases hp
        | true => rfl
      rw [hy]
      exact caps_rch ha hr hcp
  | app d nm t s x =>
    have e' := e
    simp only [step] at e'
    obtain ⟨ys, hys, e1⟩ := bnd_eq e'
    have e2 := e1
    unfold appA at e1
    split at e1
    · rename_i ty b len cap ex hse
      obtain ⟨k, hk, f1⟩ := bnd_eq e1
      have hhas := (rowsOf_same (h' := σ.h) hys (fun b hb => Same.refl (rowsOf_has hys b hb))).2
      split at f1
      · rename_i hc
        have mdx : ∀ c, c = b → ∃ y ∈ (AOp.app d nm t s x).mdOpds, c ∈ nmIn (ev σ y) := fun c hc => ⟨s, by simp [AOp.mdOpds], by rw [hc, hse]; simp [nmIn]⟩
        have rdx : ∀ c ∈ nmIn (ev σ x), ((AOp.app d nm t s x).isCall = true ∧ Rch σ (.app d nm t s x) c) ∨ ∃ y ∈ (AOp.app d nm t s x).rdOpds, c ∈ nmX (ev σ y) := fun c hc => .inr ⟨x, by simp [AOp.rdOpds], by simp [nmX, hc]⟩
        have hasb : ∀ c, c ∈ nmIn (ev σ x) ∨ c = b → σ.h c ≠ none := fun c hc => by
          rcases hc with hc | hc
          · exact hhas c hc
          · rw [hc, hk]; simp
        split at f1
        · rename_i hcap
          simp only [Option.some.injEq] at f1
          refine ⟨.ref ty (σ.n + nm) 0 (len + ys.length) (len + ys.length) false, fun h => upd (upd h b none) (σ.n + nm) (some { k with rows := k.rows.take len ++ ys }), fun c => c = σ.n + nm, fun c => c = b, nmIn (ev σ x), f1.symm,
            ⟨by rw [e, ← f1]; rfl, fun h h' c q => upd_pw (upd_pw q), fun c => ?_, hasb, fun σ2 h1 h2 h3 h4 h5 => ?_⟩, ⟨fun c hc => by subst hc; simp [AOp.names, span], rdx, mdx, nofun⟩⟩
          · by_cases hb : c = σ.n + nm
            · exact .inl hb
            · by_cases hb2 : c = b
              · exact .inr (.inl hb2)
              · exact .inr (.inr (.inl fun h => by rw [upd_out hb, upd_out hb2]))
          · have hk2 : σ2.h b = some k := (h5 b rfl).trans hk
            obtain ⟨q1, _⟩ := rowsOf_same hys h4
            simp only [step, h1 s (by simp [AOp.opds]), h1 x (by simp [AOp.opds]), q1, bnd, hse, appA, hk2, h2, h3]
            rw [if_pos hc, if_pos hcap]; rfl
        · rename_i hcap
          split at f1
          · rename_i hle
            simp only [Option.some.injEq] at f1
            refine ⟨.ref ty b 0 (len + ys.length) cap ex, fun h => upd h b (some { k with rows := k.rows.take len ++ ys ++ k.rows.drop (len + ys.length) }), noN, fun c => c = b, nmIn (ev σ x), f1.symm,
              ⟨by rw [e, ← f1]; rfl, fun h h' c q => upd_pw q, fun c => ?_, hasb, fun σ2 h1 h2 h3 h4 h5 => ?_⟩, ⟨fun c hc => hc.elim, rdx, mdx, nofun⟩⟩
            · by_cases hb2 : c = b
              · exact .inr (.inl hb2)
              · exact .inr (.inr (.inl fun h => by rw [upd_out hb2]))
            · have hk2 : σ2.h b = some k := (h5 b rfl).trans hk
              obtain ⟨q1, _⟩ := rowsOf_same hys h4
              simp only [step, h1 s (by simp [AOp.opds]), h1 x (by simp [AOp.opds]), q1, bnd, hse, appA, hk2, h2, h3]
              rw [if_pos hc, if_neg hcap, if_pos hle]; rfl
          · cases f1
      · cases f1
    · cases e1
  | _ =>
    have e' := e
    simp only [step, AOp.yields, bnd_some'] at e'
    obtain ⟨u, hu, e1⟩ := bnd_eq e'
    simp only [Option.some.injEq] at e1
    refine ⟨u, fun h => h, noN, noN, _, e1.symm, LocE.quiet (by rw [e, ← e1]; rfl) (valOp_has hu) (fun σ2 h1 h2 h3 h4 => ?_), ⟨fun b h => h.elim, fun b hb => .inr (rdV_x (τ := σ) (h := σ.h) (get := fun x => some (ev σ x)) rfl (fun x _ v hv => by simp only [Option.some.injEq] at hv; exact hv.symm) rfl b hb), fun b h => h.elim, nofun⟩⟩
    obtain ⟨q1, _⟩ := valOp_same (get' := fun x => some (ev σ2 x)) (pk' := fun q x => evq q σ2 x) hu (fun x hx => by rw [h1 x hx]) (fun q x hx => by simp only [evq, h1 x hx]) h4
    simp only [step, AOp.yields, bnd_some']
    rw [q1]; rfl
end Go.Vm

/-
  The local effect of an operation with its guard.
-/
set_option linter.unusedVariables false
set_option linter.unusedSimpArgs false
namespace Go.Vm
open Go.RowKit
variable {h : Hp} {σ σ' σ2 : St} {E : Env} {tot : Nat}
def tauG : G → St → St
  | .o _, σ => σ
  | .g _ _ _, σ => strip σ
def cleanC : A → Bool
  | .v _ | .lit _ _ => true
  | _ => false
def clean : A → Bool
  | .v _ | .lit _ _ => true
  | .agg cs => cs.all cleanC
  | .fn _ [] => true
  | _ => false
def cleanO : Opd → Bool
  | .t _ => true
  | .k a => clean a
def opdSlots : List Opd → List Nat
  | [] => []
  | .t n :: xs => n :: opdSlots xs
  | _ :: xs => opdSlots xs
def G.looks : G → List Nat
  | .o op => opdSlots op.opds
  | .g s _ op => s :: opdSlots op.opds
def G.active : G → St → Prop
  | .o _, _ => True
  | .g s w _, σ => test σ s w = some true
def agG (g : G) (σ σ2 : St) : Prop := ∀ t ∈ g.looks, σ2.s t = σ.s t
theorem opdSlots_mem : ∀ {xs : List Opd} {n : Nat}, .t n ∈ xs → n ∈ opdSlots xs
  | [], n, h => by simp at h
  | x :: xs, n, h => by
    rcases List.mem_cons.1 h with rfl | h
    · simp [opdSlots]
    · have := opdSlots_mem h
      cases x <;> simp [opdSlots, this]
theorem agG_sub {g : G} (q : agG g σ σ2) {n : Nat} (h : .t n ∈ g.op.opds) : σ2.s n = σ.s n := by
  refine q n ?_
  cases g with
  | o op => exact opdSlots_mem h
  | g s w op => exact List.mem_cons_of_mem _ (opdSlots_mem h)
theorem agG_ev {g : G} (q : agG g σ σ2) : ∀ x ∈ g.op.opds, ev σ2 x = ev σ x := fun x hx => by
  cases x with
  | t n => exact agG_sub q hx
  | k a => rfl
theorem agG_evS {g : G} (q : agG g σ σ2) : agOp g.op (strip σ) (strip σ2) := fun x hx => by
  cases x with
  | t n => simp only [ev, strip, agG_sub q hx]
  | k a => rfl
theorem opA_true {a v : A} (e : opA true a = some v) : v = unT a := by
  unfold opA at e
  split at e
  · rename_i g b
    cases g with
    | true => simp [imp] at e; subst e; rfl
    | false => simp [imp] at e
  · rename_i hno
    simp only [Option.some.injEq] at e
    subst e
    unfold unT
    split
    · rename_i b; exact absurd rfl (hno true b)
    · rfl
theorem evp_strip {x : Opd} {v : A} (hc : cleanO x = true) (e : evp true σ x = some v) : v = ev (strip σ) x := by
  cases x with
  | t n => exact opA_true e
  | k a =>
    have h := opA_true e
    rw [h]
    cases a <;> first | rfl | (simp [cleanO, clean] at hc)
theorem mapM_mem {f : Opd → Option A} : ∀ {xs : List Opd} {as : List A}, xs.mapM f = some as → ∀ a ∈ as, ∃ x ∈ xs, f x = some a
  | [], as, e, a, h => by simp at e; subst e; simp at h
  | x :: xs, as, e, a, h => by
    rw [List.mapM_cons] at e
    cases hv : f x with
    | none => rw [hv] at e; cases e
    | some v =>
      rw [hv] at e
      cases hvs : xs.mapM f with
      | none => simp [hvs] at e
      | some vs =>
        simp [hvs] at e
        subst e
        rcases List.mem_cons.1 h with rfl | h
        · exact ⟨x, by simp, hv⟩
        · obtain ⟨y, hy, e⟩ := mapM_mem hvs a h
          exact ⟨y, by simp [hy], e⟩
theorem mapM_evs : ∀ {xs : List Opd} {cs : List A}, xs.all cleanO = true → clVals h (evs (strip σ) xs) = some cs → xs.mapM (fun x => evp true σ x) = some (evs (strip σ) xs)
  | [], cs, _, _ => rfl
  | x :: xs, cs, hc, e => by
    simp only [List.all_cons, Bool.and_eq_true] at hc
    obtain ⟨c, hcv, e1⟩ := bnd_eq e
    obtain ⟨cs', hcs, _⟩ := bnd_eq e1
    have one : evp true σ x = some (ev (strip σ) x) := by
      cases x with
      | t n =>
        simp only [ev, strip] at hcv ⊢
        simp only [evp, ev]
        cases ha : σ.s n with
        | ifg g b =>
          rw [ha] at hcv
          cases g with
          | true => simp [opA, imp, unT]
          | false => simp [unT, clVal, clCell] at hcv
        | _ => rfl
      | k a =>
        simp only [evp, ev]
        have := hc.1
        cases a <;> first | rfl | (simp [cleanO, clean] at this)
    rw [List.mapM_cons, one, mapM_evs hc.2 hcs]
    rfl
theorem valOp_none_same {op : AOp} {σ1 : St} {pk pk2 : Bool → Opd → Option Bool} (hy : op.yields = none) (hcl : op.opds.all cleanO = true) (hs : step E tot op (strip σ) = some σ1) (hn : valOp E σ.h (fun x => evp true σ x) pk op = none)
    (ha : ∀ x ∈ op.opds, evp true σ2 x = evp true σ x) (hsame : ∀ d nm w f xs, op = .call d nm w f xs → ∀ b ∈ nmVals σ.h (evs (strip σ) xs), Same (σ.h b) (σ2.h b)) : valOp E σ2.h (fun x => evp true σ2 x) pk2 op = none := by
  cases op with
  | call d nm w f xs =>
    simp only [step, doCall] at hs
    obtain ⟨cs, hcs, e1⟩ := bnd_eq hs
    obtain ⟨rs, hrs, _⟩ := bnd_eq e1
    have hcs' : clVals σ.h (evs (strip σ) xs) = some cs := hcs
    have hm := mapM_evs (h := σ.h) (xs := xs) hcl hcs'
    have hm2 : xs.mapM (fun x => evp true σ2 x) = some (evs (strip σ) xs) :=
      (mapM_congr (f := fun x => evp true σ x) (xs := xs) (fun x hx => ha x hx)).trans hm
    obtain ⟨q1, _⟩ := clVals_same hcs' (hsame d nm w f xs rfl)
    have hn1 : bnd (bnd (bnd (xs.mapM (fun x => evp true σ x)) (clVals σ.h)) (E.call f)) plainR = none := hn
    show bnd (bnd (bnd (xs.mapM (fun x => evp true σ2 x)) (clVals σ2.h)) (E.call f)) plainR = none
    rw [hm] at hn1
    rw [hm2]
    simp only [bnd, hcs', q1, hrs] at hn1 ⊢
    exact hn1
  | bld d nm zs ps =>
    cases ps with
    | nil =>
      simp only [valOp] at hn ⊢
      exact hn
    | cons p ps => rfl
  | _ => first | rfl | (simp [AOp.yields] at hy)
theorem stepG_loc {g : G} (heasy : g.op.easy = true) (hcl : g.op.opds.all cleanO = true) (hact : g.active σ) (e : stepG E tot g σ = some σ') :
    ∃ u F iv Md Rd, σ' = ⟨put σ.s g.op.dst u, F σ.h, σ.n, σ.base⟩ ∧ LocE (stepG E tot g) (agG g) σ g.op.dst u F iv Md Rd ∧ LocX (tauG g σ) g.op iv Md Rd := by
  cases g with
  | o op =>
    obtain ⟨u, F, iv, Md, Rd, h1, h2, h3⟩ := step_loc (op := op) heasy e
    exact ⟨u, F, iv, Md, Rd, h1, ⟨h2.eq, h2.pw, h2.cls, h2.has, fun σ2 q => h2.move σ2 (agG_ev q)⟩, h3.x⟩
  | g s w op =>
    simp only [G.op] at heasy hcl
    have ht : test σ s w = some true := hact
    have ht2 : ∀ σ2, agG (.g s w op) σ σ2 → test σ2 s w = some true := fun σ2 q => by
      unfold test at ht ⊢
      rw [q s (by simp [G.looks])]
      exact ht
    have hev : ∀ σ2, agG (.g s w op) σ σ2 → ∀ x ∈ op.opds, evp true σ2 x = evp true σ x := fun σ2 q x hx => by
      unfold evp
      rw [agG_ev (g := .g s w op) q x hx]
    have hevq : ∀ σ2, agG (.g s w op) σ σ2 → ∀ r, ∀ x ∈ op.opds, evq (true && r) σ2 x = evq (true && r) σ x := fun σ2 q r x hx => by
      unfold evq
      rw [agG_ev (g := .g s w op) q x hx]
    have e0 := e
    simp only [stepG, ht, bnd_some'] at e
    cases hy : op.yields with
    | some d =>
      rw [hy] at e
      simp only [underV] at e
      have hd := (yields_dst hy).1
      split at e
      · rename_i u hu
        simp only [Option.some.injEq] at e
        have hno : op.isCall = false := by cases op <;> first | rfl | (simp [AOp.yields] at hy)
        refine ⟨.ifg true u, fun h => h, noN, noN, _, by rw [← e]; simp only [G.op, hd], LocE.quiet (by rw [e0, ← e]; simp only [G.op, hd]) (valOp_has hu) (fun σ2 h1 h2 h3 h4 => ?_),
          ⟨fun b h => h.elim, fun b hb => .inr (rdV_x (τ := strip σ) (h := σ.h) rfl (fun x hx v hv => evp_strip (List.all_eq_true.1 hcl x hx) hv) hno b hb), fun b h => h.elim⟩⟩
        obtain ⟨q1, _⟩ := valOp_same (get' := fun x => evp true σ2 x) (pk' := fun q x => evq (true && q) σ2 x) hu (hev σ2 h1) (hevq σ2 h1) h4
        simp only [stepG, ht2 σ2 h1, bnd_some', hy, q1, underV]
        simp only [G.op, hd]
      · cases e
    | none =>
      rw [hy] at e
      simp only [underS] at e
      split at e
      · rename_i u hu
        simp only [Option.some.injEq] at e
        refine ⟨.ifg true u, fun h => h, noN, noN, _, by rw [← e]; rfl, LocE.quiet (by rw [e0, ← e]; rfl) (valOp_has hu) (fun σ2 h1 h2 h3 h4 => ?_), ⟨fun b h => h.elim, fun b hb => ?_, fun b h => h.elim⟩⟩
        · obtain ⟨q1, _⟩ := valOp_same (get' := fun x => evp true σ2 x) (pk' := fun q x => evq (true && q) σ2 x) hu (hev σ2 h1) (hevq σ2 h1) h4
          simp only [stepG, ht2 σ2 h1, bnd_some', hy, q1, underS]; rfl
        · cases hc : op.isCall with
          | false => exact .inr (rdV_x (τ := strip σ) (h := σ.h) rfl (fun x hx v hv => evp_strip (List.all_eq_true.1 hcl x hx) hv) hc b hb)
          | true =>
            refine .inl ⟨hc, ?_⟩
            cases op with
            | call d nm wd f xs =>
              simp only [rdV] at hb
              split at hb
              · rename_i as has
                obtain ⟨a, ha, hr⟩ := nmVals_rch hb
                obtain ⟨x, hx, he⟩ := mapM_mem has a ha
                have hcx : cleanO x = true := List.all_eq_true.1 hcl x hx
                have hst := evp_strip hcx he
                subst hst
                exact ⟨x, hx, hr⟩
              · simp at hb
            | callv d nm wd y xs => simp [rdV] at hb
            | _ => simp [AOp.isCall] at hc
      · rename_i hnone
        simp only [cond_true] at e
        obtain ⟨σ1, hs1, e2⟩ := bnd_eq e
        obtain ⟨u, F, iv, Md, Rd, h1, h2, h3⟩ := step_loc (op := op) heasy hs1
        have hback : ∀ τ : St, back τ op.dst ⟨put (strip τ).s op.dst u, F τ.h, τ.n, τ.base⟩ = some ⟨put τ.s op.dst u, F τ.h, τ.n, τ.base⟩ := fun τ => by
          unfold back
          cases op.dst with
          | none => rfl
          | some d => simp [put, upd_apply]
        have he : σ' = ⟨put σ.s op.dst u, F σ.h, σ.n, σ.base⟩ := by
          rw [h1] at e2
          have := hback σ
          have hh : (strip σ).h = σ.h := rfl
          rw [hh] at e2
          rw [show (strip σ).n = σ.n from rfl, show (strip σ).base = σ.base from rfl, this] at e2
          simp only [Option.some.injEq] at e2
          exact e2.symm
        refine ⟨u, F, iv, Md, Rd, he, ⟨by rw [e0, he]; rfl, h2.pw, h2.cls, h2.has, fun σ2 q1 q2 q3 q4 q5 => ?_⟩, h3.x⟩
        have hmv := h2.move (strip σ2) (agG_evS (g := .g s w op) q1) q2 q3 q4 q5
        have hn2 : valOp E σ2.h (fun x => evp true σ2 x) (fun r x => evq (true && r) σ2 x) op = none := by
          refine valOp_none_same hy hcl hs1 hnone (hev σ2 q1) (fun d nm wd f xs hop b hb => ?_)
          subst hop
          -- the names that the call reads stand in Rd
          exact q4 b (h3.call d nm wd f xs rfl b hb)
        simp only [stepG, ht2 σ2 q1, bnd_some', hy, hn2, underS, cond_true]
        rw [hmv]
        exact hback σ2
end Go.Vm

/-
  Two operations of a region, in either order.
-/
set_option linter.unusedVariables false
set_option linter.unusedSimpArgs false
namespace Go.Vm
open Go.RowKit
variable {h : Hp} {σ σ' σ1 σ2 : St} {E : Env} {tot : Nat}
def junk (u : A) : Prop := u = .und ∨ ∃ a, u = .ifg false a
inductive Does (E : Env) (tot : Nat) : G → St → St → Prop
  | run {g : G} {σ σ' : St} (h : g.active σ) (e : stepG E tot g σ = some σ') : Does E tot g σ σ'
  | skip {s : Nat} {w : Bool} {op : AOp} {σ : St} {u : A} (h : test σ s w = some false) (hu : junk u) : Does E tot (.g s w op) σ ⟨put σ.s op.dst u, σ.h, σ.n, σ.base⟩
theorem stepG_does {g : G} (e : stepG E tot g σ = some σ') : Does E tot g σ σ' := by
  cases g with
  | o op => exact .run trivial e
  | g s w op =>
    have e0 := e
    obtain ⟨t, ht, e1⟩ := bnd_eq e
    cases t with
    | true => exact .run ht e0
    | false =>
      split at e1
      · rename_i d hy
        rw [← (yields_dst hy).1] at e1
        unfold underV at e1
        split at e1
        · simp only [Option.some.injEq] at e1; subst e1; exact .skip ht (.inr ⟨_, rfl⟩)
        · simp only [cond_false, Option.some.injEq] at e1; subst e1; exact .skip ht (.inl rfl)
      · unfold underS at e1
        split at e1
        · simp only [Option.some.injEq] at e1; subst e1; exact .skip ht (.inr ⟨_, rfl⟩)
        · simp only [cond_false, Option.some.injEq] at e1; subst e1; exact .skip ht (.inl rfl)
def AOp.light : AOp → Bool
  | .mv _ _ | .pick _ _ _ _ | .bin _ _ _ _ | .eqs _ _ _ _ _ | .beq _ _ _ _ | .un _ _ _ | .cv _ _ _ | .fa _ _ _ | .fld _ _ _ _ _ | .ia _ _ _ _ | .ix _ _ _ | .ex _ _ _ | .len _ _ _ | .mnx _ _ _ _ | .nl _ _ | .sl _ _ _ _ _ _ | .mkf _ _ _ | .bll _ _ _ _ => true
  | _ => false
theorem light_rd {op : AOp} (hl : op.light = true) (h : Hp) (get : Opd → Option A) : rdV h get op = [] := by
  cases op <;> first | rfl | (simp [AOp.light] at hl)
theorem step_light {op : AOp} (hl : op.light = true) (e : step E tot op σ = some σ') : ∃ u, σ' = ⟨put σ.s op.dst u, σ.h, σ.n, σ.base⟩ ∧ ∀ σ2, agOp op σ σ2 → step E tot op σ2 = some ⟨put σ2.s op.dst u, σ2.h, σ2.n, σ2.base⟩ := by
  cases op with
  | mkf d f caps =>
    simp only [step] at e
    split at e
    · rename_i hc
      simp only [Option.some.injEq] at e
      refine ⟨.fn f (evs σ caps), e.symm, fun σ2 h1 => ?_⟩
      simp only [step, evs_same (σ := σ) (xs := caps) (fun y hy => h1 y hy)]
      rw [if_pos hc]; rfl
    · cases e
  | bll d ty n xs =>
    simp only [step] at e
    obtain ⟨rows, hrows, e1⟩ := bnd_eq e
    simp only [Option.some.injEq] at e1
    refine ⟨.lit ty rows, e1.symm, fun σ2 h1 => ?_⟩
    have q : plRows σ2 n xs = some rows := by rw [← hrows]; exact plRows_same (fun y hy => h1 y (by simpa [AOp.opds] using hy))
    simp only [step, q, bnd]; rfl
  | sl d t x lo hi mx =>
    simp only [step] at e
    obtain ⟨u, hu, e1⟩ := bnd_eq e
    simp only [Option.some.injEq] at e1
    refine ⟨u, e1.symm, fun σ2 h1 => ?_⟩
    have hm : ∀ y, y ∈ lo.toList ∨ y ∈ hi.toList ∨ y ∈ mx.toList → ev σ2 y = ev σ y := fun y hy => h1 y (by
      simp only [AOp.opds, List.mem_cons, List.mem_append]
      rcases hy with hy | hy | hy
      · exact .inr (.inl (.inl hy))
      · exact .inr (.inl (.inr hy))
      · exact .inr (.inr hy))
    simp only [step, h1 x (by simp [AOp.opds])]
    rw [sliceA_same (σ := σ) (fun y hy => hm y (.inl hy)) (fun y hy => hm y (.inr (.inl hy))) (fun y hy => hm y (.inr (.inr hy))), hu]; rfl
  | _ =>
    first
    | (simp [AOp.light] at hl; done)
    | (simp only [step, AOp.yields, bnd_some'] at e
       obtain ⟨u, hu, e1⟩ := bnd_eq e
       simp only [Option.some.injEq] at e1
       refine ⟨u, e1.symm, fun σ2 h1 => ?_⟩
       obtain ⟨q1, _⟩ := valOp_same (h' := σ2.h) (get' := fun x => some (ev σ2 x)) (pk' := fun q x => evq q σ2 x) hu (fun x hx => by rw [h1 x hx]) (fun q x hx => by simp only [evq, h1 x hx]) (fun b hb => by rw [light_rd rfl] at hb; simp at hb)
       simp only [step, AOp.yields, bnd_some']
       rw [q1]; rfl)
theorem stepG_light {g : G} (hl : g.op.light = true) (hact : g.active σ) (e : stepG E tot g σ = some σ') :
    ∃ u, σ' = ⟨put σ.s g.op.dst u, σ.h, σ.n, σ.base⟩ ∧ ∀ σ2, agG g σ σ2 → stepG E tot g σ2 = some ⟨put σ2.s g.op.dst u, σ2.h, σ2.n, σ2.base⟩ := by
  cases g with
  | o op =>
    obtain ⟨u, h1, h2⟩ := step_light (op := op) hl e
    exact ⟨u, h1, fun σ2 q => h2 σ2 (agG_ev q)⟩
  | g s w op =>
    simp only [G.op] at hl
    have ht : test σ s w = some true := hact
    have ht2 : ∀ σ2, agG (.g s w op) σ σ2 → test σ2 s w = some true := fun σ2 q => by
      unfold test at ht ⊢
      rw [q s (by simp [G.looks])]
      exact ht
    have e0 := e
    simp only [stepG, ht, bnd_some'] at e
    cases hy : op.yields with
    | some d =>
      rw [hy] at e
      simp only [underV] at e
      have hd := (yields_dst hy).1
      split at e
      · rename_i u hu
        simp only [Option.some.injEq] at e
        refine ⟨.ifg true u, by rw [← e]; simp only [G.op, hd], fun σ2 q => ?_⟩
        obtain ⟨q1, _⟩ := valOp_same (h' := σ2.h) (get' := fun x => evp true σ2 x) (pk' := fun q x => evq (true && q) σ2 x) hu (fun x hx => by unfold evp; rw [agG_ev (g := .g s w op) q x hx]) (fun r x hx => by unfold evq; rw [agG_ev (g := .g s w op) q x hx]) (fun b hb => by rw [light_rd hl] at hb; simp at hb)
        simp only [stepG, ht2 σ2 q, bnd_some', hy, q1, underV]
        simp only [G.op, hd]
      · cases e
    | none =>
      rw [hy] at e
      have hv : ∀ (τ : St), valOp E τ.h (fun x => evp true τ x) (fun q x => evq (true && q) τ x) op = none := fun τ => by
        cases op <;> first | rfl | (simp [AOp.light] at hl; done) | (simp [AOp.yields] at hy)
      simp only [underS, hv, cond_true] at e
      obtain ⟨σ1, hs1, e2⟩ := bnd_eq e
      obtain ⟨u, h1, h2⟩ := step_light (op := op) hl hs1
      have hback : ∀ τ : St, back τ op.dst ⟨put (strip τ).s op.dst u, τ.h, τ.n, τ.base⟩ = some ⟨put τ.s op.dst u, τ.h, τ.n, τ.base⟩ := fun τ => by
        unfold back
        cases op.dst with
        | none => rfl
        | some d => simp [put, upd_apply]
      have he : σ' = ⟨put σ.s op.dst u, σ.h, σ.n, σ.base⟩ := by
        rw [h1] at e2
        rw [show (strip σ).h = σ.h from rfl, show (strip σ).n = σ.n from rfl, show (strip σ).base = σ.base from rfl, hback σ] at e2
        simp only [Option.some.injEq] at e2
        exact e2.symm
      refine ⟨u, he, fun σ2 q => ?_⟩
      have hmv := h2 (strip σ2) (agG_evS (g := .g s w op) q)
      simp only [stepG, ht2 σ2 q, bnd_some', hy, underS, hv, cond_true]
      rw [hmv]
      exact hback σ2
theorem quiet_facts {op : AOp} (h : op.quiet = true) : op.names = (0, 0) ∧ op.mdOpds = [] ∧ op.isCall = false ∧ op.easy = true ∧ (∃ d, op.yields = some d) := by
  cases op <;> simp [AOp.quiet] at h <;> exact ⟨rfl, rfl, rfl, rfl, _, rfl⟩
theorem stepG_quiet {g : G} (hq : g.op.quiet = true) (hcl : g.op.opds.all cleanO = true) (hact : g.active σ) (e : stepG E tot g σ = some σ') :
    ∃ u, σ' = ⟨put σ.s g.op.dst u, σ.h, σ.n, σ.base⟩ ∧ ∀ σ2, agG g σ σ2 → (∀ x ∈ g.op.rdOpds, ∀ b ∈ nmX (ev (tauG g σ) x), σ2.h b = σ.h b) → stepG E tot g σ2 = some ⟨put σ2.s g.op.dst u, σ2.h, σ2.n, σ2.base⟩ := by
  obtain ⟨_, _, hno, _, d, hy⟩ := quiet_facts hq
  have hd := (yields_dst hy).1
  cases g with
  | o op =>
    simp only [G.op] at hq hcl hno hy hd
    have e1 : bnd (valOp E σ.h (fun x => some (ev σ x)) (fun q x => evq q σ x) op) (fun a => some ({ σ with s := put σ.s d a } : St)) = some σ' := by
      rw [← e]
      cases op <;> simp [AOp.quiet] at hq <;> (simp only [AOp.yields, Option.some.injEq] at hy; subst hy; rfl)
    obtain ⟨u, hu, e2⟩ := bnd_eq e1
    simp only [Option.some.injEq] at e2
    refine ⟨u, by rw [← e2]; simp only [G.op, hd], fun σ2 q hk => ?_⟩
    obtain ⟨q1, _⟩ := valOp_same (h' := σ2.h) (get' := fun x => some (ev σ2 x)) (pk' := fun q x => evq q σ2 x) hu (fun x hx => by rw [agG_ev (g := .o op) q x hx]) (fun r x hx => by unfold evq; rw [agG_ev (g := .o op) q x hx]) (fun b hb => by
      obtain ⟨x, hx, hbx⟩ := rdV_x (τ := σ) (h := σ.h) (get := fun x => some (ev σ x)) rfl (fun x _ v hv => by simp only [Option.some.injEq] at hv; exact hv.symm) hno b hb
      have hs := hk x hx b hbx
      rw [hs]
      exact Same.refl (valOp_has hu b hb))
    have : stepG E tot (.o op) σ2 = bnd (valOp E σ2.h (fun x => some (ev σ2 x)) (fun q x => evq q σ2 x) op) (fun a => some ({ σ2 with s := put σ2.s d a } : St)) := by
      cases op <;> simp [AOp.quiet] at hq <;> (simp only [AOp.yields, Option.some.injEq] at hy; subst hy; rfl)
    rw [this, q1]
    simp only [bnd, G.op, hd]
  | g s w op =>
    simp only [G.op] at hq hcl hno hy hd
    have ht : test σ s w = some true := hact
    have ht2 : ∀ σ2, agG (.g s w op) σ σ2 → test σ2 s w = some true := fun σ2 q => by
      unfold test at ht ⊢
      rw [q s (by simp [G.looks])]
      exact ht
    simp only [stepG, ht, bnd_some', hy, underV] at e
    split at e
    · rename_i u hu
      simp only [Option.some.injEq] at e
      refine ⟨.ifg true u, by rw [← e]; simp only [G.op, hd], fun σ2 q hk => ?_⟩
      obtain ⟨q1, _⟩ := valOp_same (h' := σ2.h) (get' := fun x => evp true σ2 x) (pk' := fun q x => evq (true && q) σ2 x) hu (fun x hx => by unfold evp; rw [agG_ev (g := .g s w op) q x hx]) (fun r x hx => by unfold evq; rw [agG_ev (g := .g s w op) q x hx]) (fun b hb => by
        obtain ⟨x, hx, hbx⟩ := rdV_x (τ := strip σ) (h := σ.h) rfl (fun x hx v hv => evp_strip (List.all_eq_true.1 hcl x hx) hv) hno b hb
        have hs := hk x hx b hbx
        rw [hs]
        exact Same.refl (valOp_has hu b hb))
      simp only [stepG, ht2 σ2 q, bnd_some', hy, q1, underV]
      simp only [G.op, hd]
    · cases e
theorem appG_shape {bx : Bool} {d nm t : Nat} {ys : List (List A)} {sv : A} {σ σ' : St} (e : appG bx σ d nm t ys sv = some σ') :
    ∃ u, σ' = ⟨put σ.s (some d) u, σ'.h, σ'.n, σ.base⟩ ∧ ∀ σ2 : St, σ2.h = σ.h → σ2.n = σ.n → σ2.base = σ.base → appG bx σ2 d nm t ys sv = some ⟨put σ2.s (some d) u, σ'.h, σ'.n, σ2.base⟩ := by
  unfold appG at e
  split at e
  · rename_i ty b len cap ex
    obtain ⟨k, hk, e1⟩ := bnd_eq e
    split at e1
    · rename_i hc
      split at e1
      · rename_i hcap
        simp only [Option.some.injEq] at e1
        subst e1
        refine ⟨_, rfl, fun σ2 h2 h3 h4 => ?_⟩
        simp only [appG, h2, h3, hk, bnd]
        rw [if_pos hc, if_pos hcap]; rfl
      · rename_i hcap
        split at e1
        · rename_i hle
          simp only [Option.some.injEq] at e1
          subst e1
          refine ⟨_, rfl, fun σ2 h2 h3 h4 => ?_⟩
          simp only [appG, h2, h3, hk, bnd]
          rw [if_pos hc, if_neg hcap, if_pos hle]; rfl
        · cases e1
    · cases e1
  · cases e
theorem step_hard {op : AOp} (hh : op.easy = false) (e : step E tot op σ = some σ') : ∃ u, σ' = ⟨put σ.s op.dst u, σ'.h, σ'.n, σ.base⟩ ∧ ∀ σ2, agOp op σ σ2 → σ2.h = σ.h → σ2.n = σ.n → σ2.base = σ.base → step E tot op σ2 = some ⟨put σ2.s op.dst u, σ'.h, σ'.n, σ2.base⟩ := by
  cases op with
  | stn nm ty p =>
    simp only [step] at e
    obtain ⟨hh', hst, e1⟩ := bnd_eq e
    simp only [Option.some.injEq] at e1
    subst e1
    refine ⟨.und, rfl, fun σ2 h1 h2 h3 h4 => ?_⟩
    simp only [step, h1 p (by simp [AOp.opds]), h2, h3, h4, hst, bnd]; rfl
  | clr t zs x =>
    simp only [step] at e
    have e0 := e
    unfold clrA at e
    split at e
    · rename_i ty b off len cap ex hx
      obtain ⟨k, hk, e1⟩ := bnd_eq e
      split at e1
      · rename_i hc
        simp only [Option.some.injEq] at e1
        subst e1
        refine ⟨.und, rfl, fun σ2 h1 h2 h3 h4 => ?_⟩
        simp only [step, h1 x (by simp [AOp.opds]), hx, clrA, h2, hk, bnd]
        rw [if_pos hc, h3, h4]; rfl
      · cases e1
    · cases e
  | dcall d f xs =>
    simp only [step, doDc] at e
    obtain ⟨r, hr, e1⟩ := bnd_eq e
    simp only [Option.some.injEq] at e1
    subst e1
    refine ⟨pack r.1, rfl, fun σ2 h1 h2 h3 h4 => ?_⟩
    simp only [step, doDc, evs_same (σ := σ) (xs := xs) (fun y hy => h1 y (by simpa [AOp.opds] using hy)), h2, h3, h4, hr, bnd]; rfl
  | apb d nm t s x =>
    simp only [step] at e
    obtain ⟨ys, hys, e1⟩ := bnd_eq e
    obtain ⟨u, hu⟩ := appG_shape e1
    refine ⟨u, hu.1, fun σ2 h1 h2 h3 h4 => ?_⟩
    simp only [step, h1 s (by simp [AOp.opds]), h1 x (by simp [AOp.opds]), h2, hys, bnd]
    exact hu.2 σ2 h2 h3 h4
  | callx d nm w f xs =>
    simp only [step, doCallX] at e
    obtain ⟨p, hp, e1⟩ := bnd_eq e
    obtain ⟨rs, hrs, e2⟩ := bnd_eq e1
    split at e2
    · cases e2
    · rename_i hw
      simp only [Option.some.injEq] at e2
      subst e2
      refine ⟨_, rfl, fun σ2 h1 h2 h3 h4 => ?_⟩
      simp only [step, doCallX, evs_same (σ := σ) (xs := xs) (fun y hy => h1 y (by simpa [AOp.opds] using hy)), h2, h3, h4, hp, hrs, bnd]
      rw [if_neg hw]; rfl
  | dcs d f xs =>
    simp only [step, doDcs] at e
    obtain ⟨r, hr, e1⟩ := bnd_eq e
    obtain ⟨p, hp, e2⟩ := bnd_eq e1
    simp only [Option.some.injEq] at e2
    subst e2
    refine ⟨pack p.1, rfl, fun σ2 h1 h2 h3 h4 => ?_⟩
    simp only [step, doDcs, evs_same (σ := σ) (xs := xs) (fun y hy => h1 y (by simpa [AOp.opds] using hy)), h2, h3, h4, hr, hp, bnd]; rfl
  | dcallv d y xs =>
    simp only [step, doDc] at e
    obtain ⟨p, hp, e0⟩ := bnd_eq e
    obtain ⟨r, hr, e1⟩ := bnd_eq e0
    simp only [Option.some.injEq] at e1
    subst e1
    refine ⟨pack r.1, rfl, fun σ2 h1 h2 h3 h4 => ?_⟩
    simp only [step, doDc, evs_same (σ := σ) (xs := xs) (fun z hz => h1 z (by simp [AOp.opds, hz])), h1 y (by simp [AOp.opds]), h2, h3, h4, hp, hr, bnd]; rfl
  | no why => simp [step, AOp.yields, bnd] at e
  | _ => simp [AOp.easy] at hh
theorem stepG_cong {g : G} (hcl : g.op.opds.all cleanO = true) (hact : g.active σ) (e : stepG E tot g σ = some σ') :
    ∃ u, σ' = ⟨put σ.s g.op.dst u, σ'.h, σ'.n, σ.base⟩ ∧ ∀ σ2, agG g σ σ2 → σ2.h = σ.h → σ2.n = σ.n → σ2.base = σ.base → stepG E tot g σ2 = some ⟨put σ2.s g.op.dst u, σ'.h, σ'.n, σ2.base⟩ := by
  cases heasy : g.op.easy with
  | true =>
    obtain ⟨u, F, iv, Md, Rd, h1, h2, _⟩ := stepG_loc heasy hcl hact e
    refine ⟨u, by rw [h1], fun σ2 q1 q2 q3 q4 => ?_⟩
    rw [h2.move σ2 q1 q3 q4 (fun b hb => by rw [q2]; exact Same.refl (h2.has b (.inl hb))) (fun b _ => by rw [q2]), h1, q2, q3]
  | false =>
    cases g with
    | o op =>
      obtain ⟨u, h1, h2⟩ := step_hard (op := op) heasy e
      exact ⟨u, h1, fun σ2 q => h2 σ2 (agG_ev q)⟩
    | g s w op =>
      simp only [G.op] at heasy hcl
      have ht : test σ s w = some true := hact
      have ht2 : ∀ σ2, agG (.g s w op) σ σ2 → test σ2 s w = some true := fun σ2 q => by
        unfold test at ht ⊢
        rw [q s (by simp [G.looks])]
        exact ht
      have hy : op.yields = none := by cases op <;> first | rfl | (simp [AOp.easy] at heasy)
      have hv : ∀ (τ : St), valOp E τ.h (fun x => evp true τ x) (fun q x => evq (true && q) τ x) op = none := fun τ => by
        cases op <;> first | rfl | (simp [AOp.easy] at heasy)
      simp only [stepG, ht, bnd_some', hy, underS, hv, cond_true] at e
      obtain ⟨σ1, hs1, e2⟩ := bnd_eq e
      obtain ⟨u, h1, h2⟩ := step_hard (op := op) heasy hs1
      have hback : ∀ (τ : St) (hh : Hp) (m : Nat), back τ op.dst ⟨put (strip τ).s op.dst u, hh, m, τ.base⟩ = some ⟨put τ.s op.dst u, hh, m, τ.base⟩ := fun τ hh m => by
        unfold back
        cases op.dst with
        | none => rfl
        | some d => simp [put, upd_apply]
      have he : σ' = ⟨put σ.s op.dst u, σ1.h, σ1.n, σ.base⟩ := by
        rw [h1] at e2
        rw [show (strip σ).base = σ.base from rfl, hback σ] at e2
        simp only [Option.some.injEq] at e2
        exact e2.symm
      refine ⟨u, by rw [he]; rfl, fun σ2 q1 q2 q3 q4 => ?_⟩
      have hmv := h2 (strip σ2) (agG_evS (g := .g s w op) q1) q2 q3 q4
      simp only [stepG, ht2 σ2 q1, bnd_some', hy, underS, hv, cond_true]
      rw [hmv, he]
      exact hback σ2 _ _
end Go.Vm

/-
  Two operations that stand beside each other, the other way round.
-/
set_option linter.unusedVariables false
set_option linter.unusedSimpArgs false
namespace Go.Vm
open Go.RowKit
variable {h : Hp} {σ σ' σ1 σ2 : St} {E : Env} {tot : Nat}
def slotsApart (x y : G) : Bool :=
  (match x.op.dst with
   | some d => !y.looks.contains d && y.op.dst != some d
   | none => true) &&
  (match y.op.dst with
   | some d => !x.looks.contains d
   | none => true)
theorem slotsApart_spec {x y : G} (e : slotsApart x y = true) : (∀ d, x.op.dst = some d → d ∉ y.looks) ∧ (∀ d, x.op.dst = some d → y.op.dst ≠ some d) ∧ (∀ d, y.op.dst = some d → d ∉ x.looks) := by
  refine ⟨fun d hd => ?_, fun d hd => ?_, fun d hd => ?_⟩ <;> simp [slotsApart, hd] at e
  · exact e.1.1
  · exact e.1.2
  · exact e.2
theorem put_at {s : Nat → A} {d : Option Nat} {u : A} {t : Nat} (h : ∀ k, d = some k → k ≠ t) : put s d u t = s t := by
  cases d with
  | none => rfl
  | some k => simp only [put, upd_apply]; rw [if_neg (fun q => h k rfl q.symm)]
theorem put_comm {s : Nat → A} {d d' : Option Nat} {u u' : A} (h : ∀ k, d = some k → d' ≠ some k) : put (put s d u) d' u' = put (put s d' u') d u := by
  cases d with
  | none => rfl
  | some k =>
    cases d' with
    | none => rfl
    | some k' =>
      have hne : k ≠ k' := fun q => h k rfl (by rw [q])
      funext t
      simp only [put, upd_apply]
      by_cases h1 : t = k <;> by_cases h2 : t = k'
      · exact absurd (h1.symm.trans h2) hne
      · simp [h1, hne]
      · simp [h2, hne.symm]
      · simp [h1, h2]
structure Kn (K : Nat → Prop) (gi : G) (σ : St) : Prop where
  -- the operands lead to known names
  ops : ∀ x ∈ gi.op.opds, ∀ b, b ∈ nmX (ev (tauG gi σ) x) ∨ b ∈ nmP (ev (tauG gi σ) x) → K b
  -- what a known row leads to is known
  rows : gi.op.isCall = true → ∀ c, K c → ∀ k, σ.h c = some k → ∀ row ∈ k.rows, ∀ b ∈ nmCells row, K b
  new : ∀ b, span (σ.n + gi.op.names.1) gi.op.names.2 b → σ.h b = none
structure Pair (K : Nat → Prop) (gj gi : G) (σ : St) : Prop where
  slots : slotsApart gj gi = true
  spanK : ∀ b, span (σ.n + gj.op.names.1) gj.op.names.2 b → ¬ K b
  spans : ∀ b, span (σ.n + gj.op.names.1) gj.op.names.2 b → ¬ span (σ.n + gi.op.names.1) gi.op.names.2 b
  one : gj.op.mdOpds = [] ∨ gi.op.mdOpds = []
  callJ : gi.op.mdOpds = [] ∨ gj.op.isCall = false
  callI : gj.op.mdOpds = [] ∨ gi.op.isCall = false
  sepJ : ∀ x ∈ gj.op.rdOpds, ∀ y ∈ gi.op.mdOpds, ∀ b, b ∈ nmX (ev (tauG gj σ) x) → b ∈ nmIn (ev (tauG gi σ) y) → False
  sepI : ∀ x ∈ gi.op.rdOpds, ∀ y ∈ gj.op.mdOpds, ∀ b, b ∈ nmX (ev (tauG gi σ) x) → b ∈ nmIn (ev (tauG gj σ) y) → False
theorem rdOpds_sub {op : AOp} : ∀ x ∈ op.rdOpds, x ∈ op.opds := by
  intro x hx
  cases op <;> simp [AOp.rdOpds] at hx <;> simp [AOp.opds, hx]
theorem mdOpds_sub {op : AOp} : ∀ x ∈ op.mdOpds, x ∈ op.opds := by
  intro x hx
  cases op <;> simp [AOp.mdOpds] at hx <;> simp [AOp.opds, hx]
theorem tau_ev {g : G} {σ2 : St} (q : agG g σ σ2) : ∀ x ∈ g.op.opds, ev (tauG g σ2) x = ev (tauG g σ) x := by
  cases g with
  | o op => exact agG_ev q
  | g s w op => exact agG_evS q
theorem tau_h (g : G) (σ : St) : (tauG g σ).h = σ.h ∧ (tauG g σ).n = σ.n := by cases g <;> exact ⟨rfl, rfl⟩
theorem active_ag {g : G} {σ2 : St} (q : agG g σ σ2) (h : g.active σ) : g.active σ2 := by
  cases g with
  | o op => trivial
  | g s w op =>
    show test σ2 s w = some true
    have h : test σ s w = some true := h
    unfold test at h ⊢
    rw [q s (by simp [G.looks])]
    exact h
theorem ag_put {gi : G} {d : Option Nat} {u : A} {hh : Hp} {n b : Nat} (hd : ∀ k, d = some k → k ∉ gi.looks) : agG gi σ ⟨put σ.s d u, hh, n, b⟩ := fun t ht => by
  show put σ.s d u t = σ.s t
  exact put_at (fun k hk q => hd k hk (q ▸ ht))
theorem ag_symm {g : G} (q : agG g σ σ2) : agG g σ2 σ := fun t ht => (q t ht).symm
theorem names_none {op : AOp} (h : op.light = true) : op.names.2 = 0 ∧ op.rdOpds = [] ∧ op.mdOpds = [] ∧ op.isCall = false ∧ op.easy = true := by
  cases op <;> simp [AOp.light] at h <;> exact ⟨rfl, rfl, rfl, rfl, rfl⟩
theorem swap_easy {K : Nat → Prop} {gi gj : G} (ei : gi.op.easy = true) (ej : gj.op.easy = true) (ci : gi.op.opds.all cleanO = true) (cj : gj.op.opds.all cleanO = true) (kn : Kn K gi σ) (pr : Pair K gj gi σ)
    (aj : gj.active σ) (hj : stepG E tot gj σ = some σ1) (ai : gi.active σ1) (hi : stepG E tot gi σ1 = some σ2) :
    ∃ σ', gi.active σ ∧ stepG E tot gi σ = some σ' ∧ gj.active σ' ∧ stepG E tot gj σ' = some σ2 ∧ σ1.n = σ.n ∧ (∀ c k, K c → gj.op.mdOpds = [] → σ1.h c = some k → ∃ k', σ.h c = some k' ∧ k'.rows = k.rows) ∧ (∀ b, span (σ.n + gi.op.names.1) gi.op.names.2 b → σ1.h b = none) := by
  obtain ⟨s1, s2, s3⟩ := slotsApart_spec pr.slots
  obtain ⟨uj, Fj, ivj, Mdj, Rdj, rfl, Lj, Xj⟩ := stepG_loc ej cj aj hj
  have agi : agG gi σ ⟨put σ.s gj.op.dst uj, Fj σ.h, σ.n, σ.base⟩ := ag_put s1
  obtain ⟨ui, Fi, ivi, Mdi, Rdi, rfl, Li, Xi⟩ := stepG_loc ei ci ai hi
  have hev := tau_ev agi
  obtain ⟨th, tn⟩ := tau_h gi ⟨put σ.s gj.op.dst uj, Fj σ.h, σ.n, σ.base⟩
  obtain ⟨thj, tnj⟩ := tau_h gj σ
  have ivJ : ∀ b, ivj b → span (σ.n + gj.op.names.1) gj.op.names.2 b := fun b hb => by have := Xj.ivs b hb; rwa [tnj] at this
  have ivI : ∀ b, ivi b → span (σ.n + gi.op.names.1) gi.op.names.2 b := fun b hb => by have := Xi.ivs b hb; rwa [tn] at this
  -- rows of known names, behind j
  have known_rows : ∀ c k, K c → (∀ b, ¬ Mdj b) → Fj σ.h c = some k → ∃ k', σ.h c = some k' ∧ k'.rows = k.rows := by
    intro c k hc hm hk
    rcases Lj.cls c with h | h | h | ⟨h1, h2⟩
    · exact absurd hc (pr.spanK c (ivJ c h))
    · exact absurd h (hm c)
    · rw [h] at hk; exact ⟨k, hk, rfl⟩
    · rw [h2] at hk
      cases hs : σ.h c with
      | none => rw [hs] at hk; cases hk
      | some k0 => rw [hs] at hk; simp only [frz1, Option.map_some, Option.some.injEq] at hk; subst hk; exact ⟨k0, rfl, rfl⟩
  have mdJnone : gj.op.mdOpds = [] → ∀ b, ¬ Mdj b := fun h b hb => by
    obtain ⟨y, hy, _⟩ := Xj.mdx b hb
    rw [h] at hy; simp at hy
  have mdInone : gi.op.mdOpds = [] → ∀ b, ¬ Mdi b := fun h b hb => by
    obtain ⟨y, hy, _⟩ := Xi.mdx b hb
    rw [h] at hy; simp at hy
  -- what i reads or turns is known
  have knI : ∀ b, b ∈ Rdi ∨ Mdi b → K b := by
    intro b hb
    rcases hb with hb | hb
    · rcases Xi.rdx b hb with ⟨hc, x, hx, hr⟩ | ⟨x, hx, hr⟩
      · rw [hev x hx] at hr
        rcases hr with hr | ⟨c, hc', hr⟩
        · exact kn.ops x hx b (.inl hr)
        · have hkc : K c := kn.ops x hx c (.inr hc')
          rcases hr with rfl | ⟨k, i, row, hk, hrow, hb'⟩
          · exact hkc
          · rw [th] at hk
            have hmd : gj.op.mdOpds = [] := by
              rcases pr.callI with h | h
              · exact h
              · rw [hc] at h; cases h
            obtain ⟨k', hk', hr'⟩ := known_rows c k hkc (mdJnone hmd) hk
            exact kn.rows hc c hkc k' hk' row (by rw [hr']; exact List.mem_of_getElem? hrow) b hb'
      · rw [hev x (rdOpds_sub x hx)] at hr
        exact kn.ops x (rdOpds_sub x hx) b (.inl hr)
    · obtain ⟨y, hy, hr⟩ := Xi.mdx b hb
      rw [hev y (mdOpds_sub y hy)] at hr
      exact kn.ops y (mdOpds_sub y hy) b (.inl (by simp [nmX, hr]))
  -- what j turns is not what i reads, and the other way round
  have mdJ_rdI : ∀ b, Mdj b → b ∈ Rdi → False := fun b h1 h2 => by
    obtain ⟨y, hy, hr⟩ := Xj.mdx b h1
    have hm : gj.op.mdOpds ≠ [] := fun q => by rw [q] at hy; simp at hy
    have hci : gi.op.isCall = false := pr.callI.resolve_left hm
    rcases Xi.rdx b h2 with ⟨hc, _⟩ | ⟨x, hx, hr2⟩
    · rw [hci] at hc; cases hc
    · rw [hev x (rdOpds_sub x hx)] at hr2
      exact pr.sepI x hx y hy b hr2 hr
  have mdI_rdJ : ∀ b, Mdi b → b ∈ Rdj → False := fun b h1 h2 => by
    obtain ⟨y, hy, hr⟩ := Xi.mdx b h1
    rw [hev y (mdOpds_sub y hy)] at hr
    have hm : gi.op.mdOpds ≠ [] := fun q => by rw [q] at hy; simp at hy
    have hcj : gj.op.isCall = false := pr.callJ.resolve_left hm
    rcases Xj.rdx b h2 with ⟨hc, _⟩ | ⟨x, hx, hr2⟩
    · rw [hcj] at hc; cases hc
    · exact pr.sepJ x hx y hy b hr2 hr
  have md_md : ∀ b, Mdi b → Mdj b → False := fun b h1 h2 => by
    rcases pr.one with h | h
    · exact mdJnone h b h2
    · exact mdInone h b h1
  have newI : ∀ b, ivi b → σ.h b = none := fun b hb => kn.new b (ivI b hb)
  have spJK : ∀ b, ivj b → ¬ K b := fun b hb => pr.spanK b (ivJ b hb)
  -- i, at once
  have hiX := Li.move σ (ag_symm agi) rfl rfl
    (fun b hb => by
      show Same (Fj σ.h b) (σ.h b)
      have hne : Fj σ.h b ≠ none := Li.has b (.inl hb)
      rcases Lj.cls b with h | h | h | ⟨h1, h2⟩
      · exact absurd (knI b (.inl hb)) (spJK b h)
      · exact (mdJ_rdI b h hb).elim
      · rw [h] at hne ⊢; exact Same.refl hne
      · rw [h2] at hne ⊢
        exact (frz1_same (fun q => hne (by rw [q]; rfl))).symm)
    (fun b hb => by
      show σ.h b = Fj σ.h b
      rcases Lj.cls b with h | h | h | ⟨h1, h2⟩
      · exact absurd (knI b (.inr hb)) (spJK b h)
      · exact (md_md b hb h).elim
      · rw [h]
      · exact (mdI_rdJ b hb h1).elim)
  have agj : agG gj σ ⟨put σ.s gi.op.dst ui, Fi σ.h, σ.n, σ.base⟩ := ag_put s3
  -- then j
  have hjX := Lj.move ⟨put σ.s gi.op.dst ui, Fi σ.h, σ.n, σ.base⟩ agj rfl rfl
    (fun b hb => by
      show Same (σ.h b) (Fi σ.h b)
      have hne := Lj.has b (.inl hb)
      rcases Li.cls b with h | h | h | ⟨h1, h2⟩
      · exact absurd (newI b h) hne
      · exact (mdI_rdJ b h hb).elim
      · rw [h]; exact Same.refl hne
      · rw [h2]; exact frz1_same hne)
    (fun b hb => by
      show Fi σ.h b = σ.h b
      have hne := Lj.has b (.inr hb)
      rcases Li.cls b with h | h | h | ⟨h1, h2⟩
      · exact absurd (newI b h) hne
      · exact (md_md b h hb).elim
      · rw [h]
      · exact (mdJ_rdI b hb h1).elim)
  refine ⟨_, active_ag (ag_symm agi) ai, hiX, active_ag agj aj, ?_, rfl, fun c k hc hm hk => known_rows c k hc (mdJnone hm) hk, fun b hb => ?_⟩
  · rw [hjX]
    have hs : put (put σ.s gi.op.dst ui) gj.op.dst uj = put (put σ.s gj.op.dst uj) gi.op.dst ui := (put_comm s2).symm
    have hheap : Fj (Fi σ.h) = Fi (Fj σ.h) := by
      funext b
      rcases Li.cls b with h | h | h | ⟨h1, h2⟩
      · rcases Lj.cls b with g | g | g | ⟨g1, g2⟩
        · exact absurd (ivI b h) (pr.spans b (ivJ b g))
        · exact absurd (newI b h) (Lj.has b (.inr g))
        · rw [g]; exact Li.pw _ _ b (g σ.h).symm
        · exact absurd (newI b h) (Lj.has b (.inl g1))
      · rcases Lj.cls b with g | g | g | ⟨g1, g2⟩
        · exact absurd (knI b (.inr h)) (spJK b g)
        · exact (md_md b h g).elim
        · rw [g]; exact Li.pw _ _ b (g σ.h).symm
        · exact (mdI_rdJ b h g1).elim
      · rw [h]; exact Lj.pw _ _ b (h σ.h)
      · rcases Lj.cls b with g | g | g | ⟨g1, g2⟩
        · exact absurd (knI b (.inl h1)) (spJK b g)
        · exact (mdJ_rdI b g h1).elim
        · rw [g]; exact Li.pw _ _ b (g σ.h).symm
        · rw [g2, h2, h2, g2]
    show some (St.mk (put (put σ.s gi.op.dst ui) gj.op.dst uj) (Fj (Fi σ.h)) σ.n σ.base) = _
    rw [hs, hheap]
  · show Fj σ.h b = none
    have hn := kn.new b hb
    rcases Lj.cls b with g | g | g | ⟨g1, g2⟩
    · exact absurd hb (pr.spans b (ivJ b g))
    · exact absurd hn (Lj.has b (.inr g))
    · rw [g]; exact hn
    · exact absurd hn (Lj.has b (.inl g1))
end Go.Vm

/-
  A region: an operation that may be done now is brought forward.
-/
set_option linter.unusedVariables false
set_option linter.unusedSimpArgs false
namespace Go.Vm
open Go.RowKit
variable {h : Hp} {σ σ' σ1 σ2 σf : St} {E : Env} {tot : Nat}
theorem Does.base {g : G} (d : Does E tot g σ σ') (cl : g.op.opds.all cleanO = true) : (∃ u hh n, σ' = ⟨put σ.s g.op.dst u, hh, n, σ.base⟩) ∧ (g.op.easy = true → σ'.n = σ.n) := by
  cases d with
  | run ha e =>
    obtain ⟨u, h1, _⟩ := stepG_cong cl ha e
    refine ⟨⟨u, _, _, h1⟩, fun he => ?_⟩
    obtain ⟨u, F, iv, Md, Rd, h1, _⟩ := stepG_loc he cl ha e
    rw [h1]
  | skip ht hu => exact ⟨⟨_, _, _, rfl⟩, fun _ => rfl⟩
theorem test_ag {s : Nat} {w : Bool} {op : AOp} {b : Bool} (q : agG (.g s w op) σ σ2) (h : test σ s w = some b) : test σ2 s w = some b := by
  unfold test at h ⊢
  rw [q s (by simp [G.looks])]
  exact h
def Fits (N : List Nat) (K : Nat → Prop) (gj gi : G) (σ : St) : Prop := gi.op.light = true ∨ gj.op.light = true ∨ (gi.op.easy = true ∧ gj.op.easy = true ∧ Kn K gi σ ∧ Pair K gj gi σ) ∨
  (gi.op.quiet = true ∧ gj.op.isDc = true ∧ ∀ x ∈ gi.op.rdOpds, ∀ b ∈ nmX (ev (tauG gi σ) x), b ∈ N) ∨ (gj.op.quiet = true ∧ gi.op.isDc = true ∧ ∀ x ∈ gj.op.rdOpds, ∀ b ∈ nmX (ev (tauG gj σ) x), b ∈ N)
structure EnvKeep (E : Env) (N : List Nat) : Prop where
  keep : ∀ f as h n r, E.dc f as h n = some r → keptBy N h r.2.1
  mono : ∀ f as h n r, E.dc f as h n = some r → n ≤ r.2.2
theorem isDc_facts {op : AOp} (h : op.isDc = true) : op.easy = false ∧ op.names = (0, 0) ∧ op.isCall = false ∧ op.yields = none := by
  cases op <;> simp [AOp.isDc] at h <;> exact ⟨rfl, rfl, rfl, rfl⟩
theorem step_kept {N : List Nat} (hN : EnvKeep E N) {op : AOp} (h : op.isDc = true) (e : step E tot op σ = some σ') : keptBy N σ.h σ'.h ∧ σ.n + tot ≤ σ'.n := by
  cases op with
  | dcall d f xs =>
    simp only [step, doDc] at e
    obtain ⟨r, hr, e1⟩ := bnd_eq e
    simp only [Option.some.injEq] at e1
    subst e1
    exact ⟨hN.keep _ _ _ _ _ hr, hN.mono _ _ _ _ _ hr⟩
  | dcallv d y xs =>
    simp only [step, doDc] at e
    obtain ⟨p, hp, e0⟩ := bnd_eq e
    obtain ⟨r, hr, e1⟩ := bnd_eq e0
    simp only [Option.some.injEq] at e1
    subst e1
    exact ⟨hN.keep _ _ _ _ _ hr, hN.mono _ _ _ _ _ hr⟩
  | _ => simp [AOp.isDc] at h
theorem stepG_kept {N : List Nat} (hN : EnvKeep E N) {g : G} (h : g.op.isDc = true) (ha : g.active σ) (e : stepG E tot g σ = some σ') : keptBy N σ.h σ'.h ∧ σ.n + tot ≤ σ'.n := by
  cases g with
  | o op => exact step_kept hN h e
  | g s w op =>
    simp only [G.op] at h
    have ht : test σ s w = some true := ha
    have hv : valOp E σ.h (fun x => evp true σ x) (fun q x => evq (true && q) σ x) op = none := by
      cases op <;> first | rfl | (simp [AOp.isDc] at h)
    simp only [stepG, ht, bnd_some', (isDc_facts h).2.2.2, underS, hv, cond_true] at e
    obtain ⟨σ1, hs1, e2⟩ := bnd_eq e
    unfold back at e2
    simp only [Option.some.injEq] at e2
    subst e2
    have q := step_kept (σ := strip σ) hN h hs1
    exact q
theorem Does.kept {N : List Nat} (hN : EnvKeep E N) {g : G} (h : g.op.isDc = true) (d : Does E tot g σ σ') : keptBy N σ.h σ'.h ∧ (σ'.n = σ.n ∨ σ.n + tot ≤ σ'.n) := by
  cases d with
  | run ha e => obtain ⟨q1, q2⟩ := stepG_kept hN h ha e; exact ⟨q1, .inr q2⟩
  | skip ht hu => exact ⟨fun _ _ => rfl, .inl rfl⟩
theorem swap {N : List Nat} (hN : EnvKeep E N) {K : Nat → Prop} {gi gj : G} (ci : gi.op.opds.all cleanO = true) (cj : gj.op.opds.all cleanO = true) (sl : slotsApart gj gi = true) (ft : Fits N K gj gi σ) (dj : Does E tot gj σ σ1) (di : Does E tot gi σ1 σ2) :
    ∃ σ', Does E tot gi σ σ' ∧ Does E tot gj σ' σ2 := by
  obtain ⟨s1, s2, s3⟩ := slotsApart_spec sl
  -- an operation passed over
  have skipI : ∀ {s w op u}, gi = .g s w op → test σ1 s w = some false → junk u → σ2 = ⟨put σ1.s op.dst u, σ1.h, σ1.n, σ1.base⟩ → ∃ σ', Does E tot gi σ σ' ∧ Does E tot gj σ' σ2 := by
    intro s w op u hg ht hu h2
    subst hg
    subst h2
    cases dj with
    | run ha e =>
      obtain ⟨uj, h1, h2⟩ := stepG_cong cj ha e
      have agi : agG (.g s w op) σ σ1 := by rw [h1]; exact ag_put s1
      have agj : agG gj σ ⟨put σ.s op.dst u, σ.h, σ.n, σ.base⟩ := ag_put s3
      refine ⟨_, .skip (test_ag (ag_symm agi) ht) hu, .run (active_ag agj ha) ?_⟩
      rw [h2 _ agj rfl rfl rfl]
      rw [h1]
      show some (St.mk (put (put σ.s op.dst u) gj.op.dst uj) _ _ _) = some (St.mk (put (put σ.s gj.op.dst uj) op.dst u) _ _ _)
      rw [put_comm (d := gj.op.dst) (d' := op.dst) s2]
    | @skip s' w' op' _ uj ht' hu' =>
      have agi : agG (.g s w op) σ ⟨put σ.s op'.dst uj, σ.h, σ.n, σ.base⟩ := ag_put s1
      have agj : agG (.g s' w' op') σ ⟨put σ.s op.dst u, σ.h, σ.n, σ.base⟩ := ag_put s3
      refine ⟨_, .skip (test_ag (ag_symm agi) ht) hu, ?_⟩
      have := Does.skip (E := E) (tot := tot) (op := op') (test_ag agj ht') hu'
      show Does E tot _ _ (St.mk (put (put σ.s op'.dst uj) op.dst u) _ _ _)
      rw [put_comm (d := op'.dst) (d' := op.dst) s2]
      exact this
  cases di with
  | skip ht hu => exact skipI rfl ht hu rfl
  | run ai hi =>
    cases dj with
    | @skip s' w' op' _ uj ht' hu' =>
      have agi : agG gi σ ⟨put σ.s op'.dst uj, σ.h, σ.n, σ.base⟩ := ag_put s1
      obtain ⟨u, h1, h2⟩ := stepG_cong ci ai hi
      have hiX := h2 σ (ag_symm agi) rfl rfl rfl
      have agj : agG (.g s' w' op') σ ⟨put σ.s gi.op.dst u, σ2.h, σ2.n, σ.base⟩ := ag_put s3
      refine ⟨_, .run (active_ag (ag_symm agi) ai) hiX, ?_⟩
      have := Does.skip (E := E) (tot := tot) (op := op') (test_ag agj ht') hu'
      rw [h1]
      show Does E tot _ _ (St.mk (put (put σ.s op'.dst uj) gi.op.dst u) _ _ _)
      rw [put_comm (d := op'.dst) s2]
      exact this
    | run aj hj =>
      rcases ft with hl | hl | ⟨ei, ej, kn, pr⟩ | ⟨qi, dcj, hn⟩ | ⟨qj, dci, hn⟩
      · -- i touches no row
        obtain ⟨uj, h1, h2⟩ := stepG_cong cj aj hj
        have agi : agG gi σ σ1 := by rw [h1]; exact ag_put s1
        obtain ⟨ui, h3, h4⟩ := stepG_light hl ai hi
        have hiX := h4 σ (ag_symm agi)
        have agj : agG gj σ ⟨put σ.s gi.op.dst ui, σ.h, σ.n, σ.base⟩ := ag_put s3
        refine ⟨_, .run (active_ag (ag_symm agi) ai) hiX, .run (active_ag agj aj) ?_⟩
        rw [h2 _ agj rfl rfl rfl, h3, h1]
        show some (St.mk (put (put σ.s gi.op.dst ui) gj.op.dst uj) _ _ _) = some (St.mk (put (put σ.s gj.op.dst uj) gi.op.dst ui) _ _ _)
        rw [put_comm (d := gj.op.dst) s2]
      · -- j touches no row
        obtain ⟨uj, h1, h2⟩ := stepG_light hl aj hj
        have agi : agG gi σ σ1 := by rw [h1]; exact ag_put s1
        obtain ⟨ui, h3, h4⟩ := stepG_cong ci ai hi
        have hiX := h4 σ (ag_symm agi) (by rw [h1]) (by rw [h1]) (by rw [h1])
        have agj : agG gj σ ⟨put σ.s gi.op.dst ui, σ2.h, σ2.n, σ.base⟩ := ag_put s3
        refine ⟨_, .run (active_ag (ag_symm agi) ai) hiX, .run (active_ag agj aj) ?_⟩
        rw [h2 _ agj, h3, h1]
        show some (St.mk (put (put σ.s gi.op.dst ui) gj.op.dst uj) _ _ _) = some (St.mk (put (put σ.s gj.op.dst uj) gi.op.dst ui) _ _ _)
        rw [put_comm (d := gj.op.dst) s2]
      · obtain ⟨σ', q1, q2, q3, q4, _⟩ := swap_easy ei ej ci cj kn pr aj hj ai hi
        exact ⟨σ', .run q1 q2, .run q3 q4⟩
      · -- i reads what j keeps
        obtain ⟨uj, h1, h2⟩ := stepG_cong cj aj hj
        have hk := (stepG_kept hN dcj aj hj).1
        have agi : agG gi σ σ1 := by rw [h1]; exact ag_put s1
        obtain ⟨ui, h3, h4⟩ := stepG_quiet qi ci ai hi
        have hiX := h4 σ (ag_symm agi) (fun x hx b hb => by
          rw [tau_ev agi x (rdOpds_sub x hx)] at hb
          exact hk b (hn x hx b hb))
        have agj : agG gj σ ⟨put σ.s gi.op.dst ui, σ.h, σ.n, σ.base⟩ := ag_put s3
        refine ⟨_, .run (active_ag (ag_symm agi) ai) hiX, .run (active_ag agj aj) ?_⟩
        rw [h2 _ agj rfl rfl rfl, h3, h1]
        show some (St.mk (put (put σ.s gi.op.dst ui) gj.op.dst uj) _ _ _) = some (St.mk (put (put σ.s gj.op.dst uj) gi.op.dst ui) _ _ _)
        rw [put_comm (d := gj.op.dst) s2]
      · -- j reads what i keeps
        obtain ⟨uj, h1, h2⟩ := stepG_quiet qj cj aj hj
        have agi : agG gi σ σ1 := by rw [h1]; exact ag_put s1
        obtain ⟨ui, h3, h4⟩ := stepG_cong ci ai hi
        have hk := (stepG_kept hN dci ai hi).1
        have hiX := h4 σ (ag_symm agi) (by rw [h1]) (by rw [h1]) (by rw [h1])
        have agj : agG gj σ ⟨put σ.s gi.op.dst ui, σ2.h, σ2.n, σ.base⟩ := ag_put s3
        refine ⟨_, .run (active_ag (ag_symm agi) ai) hiX, .run (active_ag agj aj) ?_⟩
        rw [h2 _ agj (fun x hx b hb => by
          have := hk b (hn x hx b hb)
          rw [h1] at this
          exact this.symm), h3, h1]
        show some (St.mk (put (put σ.s gi.op.dst ui) gj.op.dst uj) _ _ _) = some (St.mk (put (put σ.s gj.op.dst uj) gi.op.dst ui) _ _ _)
        rw [put_comm (d := gj.op.dst) s2]
theorem Kn.still {K : Nat → Prop} {gi gj : G} (cj : gj.op.opds.all cleanO = true) (sl : slotsApart gj gi = true) (kn : Kn K gi σ) (dj : Does E tot gj σ σ1) (h1 : σ1.h = σ.h ∨ (gi.op.names = (0, 0) ∧ gi.op.isCall = false)) (h2 : σ1.n = σ.n ∨ gi.op.names = (0, 0)) : Kn K gi σ1 := by
  obtain ⟨s1, s2, s3⟩ := slotsApart_spec sl
  obtain ⟨⟨u, hh, n, e1⟩, _⟩ := dj.base cj
  have agi : agG gi σ σ1 := by rw [e1]; exact ag_put s1
  have hev := tau_ev agi
  refine ⟨fun x hx b hb => ?_, fun hc c hk k hkk row hrow b hb => ?_, fun b hb => ?_⟩
  · rw [hev x hx] at hb; exact kn.ops x hx b hb
  · rcases h1 with h | h
    · rw [h] at hkk; exact kn.rows hc c hk k hkk row hrow b hb
    · rw [h.2] at hc; cases hc
  · rcases h2 with h2 | h2
    · rcases h1 with h | h
      · rw [h2] at hb; rw [h]; exact kn.new b hb
      · rw [h.1] at hb; simp only [span] at hb; omega
    · rw [h2] at hb; simp only [span] at hb; omega
theorem Kn.step {K : Nat → Prop} {gi gj : G} (ci : gi.op.opds.all cleanO = true) (cj : gj.op.opds.all cleanO = true) (sl : slotsApart gj gi = true) (kn : Kn K gi σ) (dj : Does E tot gj σ σ1) (ej : gj.op.light = true ∨ (gj.op.easy = true ∧ Pair K gj gi σ)) : Kn K gi σ1 ∧ σ1.n = σ.n := by
  obtain ⟨s1, s2, s3⟩ := slotsApart_spec sl
  have he : gj.op.easy = true := by
    rcases ej with h | h
    · exact (names_none h).2.2.2.2
    · exact h.1
  obtain ⟨⟨u, hh, n, h1⟩, h2⟩ := dj.base cj
  have hn := h2 he
  have agi : agG gi σ σ1 := by rw [h1]; exact ag_put s1
  have hev := tau_ev agi
  -- the rows
  have rows : (∀ c k, K c → gi.op.isCall = true → σ1.h c = some k → ∃ k', σ.h c = some k' ∧ k'.rows = k.rows) ∧ (∀ b, span (σ.n + gi.op.names.1) gi.op.names.2 b → σ1.h b = none) := by
    cases dj with
    | skip ht hu => exact ⟨fun c k _ _ hk => ⟨k, hk, rfl⟩, kn.new⟩
    | run aj hj =>
      rcases ej with hl | ⟨hej, pr⟩
      · obtain ⟨uj, h1, _⟩ := stepG_light hl aj hj
        rw [h1]
        exact ⟨fun c k _ _ hk => ⟨k, hk, rfl⟩, kn.new⟩
      · obtain ⟨uj, Fj, ivj, Mdj, Rdj, h1, Lj, Xj⟩ := stepG_loc hej cj aj hj
        obtain ⟨thj, tnj⟩ := tau_h gj σ
        have ivJ : ∀ b, ivj b → span (σ.n + gj.op.names.1) gj.op.names.2 b := fun b hb => by have := Xj.ivs b hb; rwa [tnj] at this
        rw [h1]
        refine ⟨fun c k hc hcall hk => ?_, fun b hb => ?_⟩
        · have hmd : gj.op.mdOpds = [] := by
            rcases pr.callI with h | h
            · exact h
            · rw [hcall] at h; cases h
          simp only at hk
          rcases Lj.cls c with h | h | h | ⟨h1, h2⟩
          · exact absurd hc (pr.spanK c (ivJ c h))
          · obtain ⟨y, hy, _⟩ := Xj.mdx c h
            rw [hmd] at hy; simp at hy
          · rw [h] at hk; exact ⟨k, hk, rfl⟩
          · rw [h2] at hk
            cases hs : σ.h c with
            | none => rw [hs] at hk; cases hk
            | some k0 => rw [hs] at hk; simp only [frz1, Option.map_some, Option.some.injEq] at hk; subst hk; exact ⟨k0, rfl, rfl⟩
        · have hnb := kn.new b hb
          show Fj σ.h b = none
          rcases Lj.cls b with g | g | g | ⟨g1, g2⟩
          · exact absurd hb (pr.spans b (ivJ b g))
          · exact absurd hnb (Lj.has b (.inr g))
          · rw [g]; exact hnb
          · exact absurd hnb (Lj.has b (.inl g1))
  refine ⟨⟨fun x hx b hb => ?_, fun hc c hk k hkk row hrow b hb => ?_, fun b hb => ?_⟩, hn⟩
  · rw [hev x hx] at hb; exact kn.ops x hx b hb
  · obtain ⟨k', hk', hr⟩ := rows.1 c k hk hc hkk
    exact kn.rows hc c hk k' hk' row (by rw [hr]; exact hrow) b hb
  · rw [hn] at hb; exact rows.2 b hb
inductive Runs (E : Env) (tot : Nat) (gs : List G) : List Nat → St → St → Prop
  | nil (σ : St) : Runs E tot gs [] σ σ
  | cons {i : Nat} {is : List Nat} {g : G} {σ σ1 σ2 : St} (hg : gs[i]? = some g) (d : Does E tot g σ σ1) (r : Runs E tot gs is σ1 σ2) : Runs E tot gs (i :: is) σ σ2
def sepOk (sep : List (Opd × Opd)) : Opd → Opd → Bool
  | .t n, .t m => sep.any fun p => match p.1, p.2 with
    | .t a, .t b => a == n && b == m
    | _, _ => false
  | _, _ => true
def sepAll (sep : List (Opd × Opd)) (xs ys : List Opd) : Bool := xs.all fun x => ys.all fun y => sepOk sep x y
def keeps (sep : List (Opd × Opd)) (t : Nat) : Bool := sep.any fun p => match p.1, p.2 with
  | .t a, .k _ => a == t
  | _, _ => false
def keepsO (sep : List (Opd × Opd)) : Opd → Bool
  | .t t => keeps sep t
  | .k _ => true
def pairOk (sep : List (Opd × Opd)) (gj gi : G) : Bool :=
  slotsApart gj gi && (gi.op.light || gj.op.light || (gi.op.quiet && gj.op.isDc && gi.op.rdOpds.all (keepsO sep)) || (gj.op.quiet && gi.op.isDc && gj.op.rdOpds.all (keepsO sep)) || (gi.op.easy && gj.op.easy && (gj.op.mdOpds.isEmpty || gi.op.mdOpds.isEmpty) &&
    (gi.op.mdOpds.isEmpty || (!gj.op.isCall && sepAll sep gj.op.rdOpds gi.op.mdOpds)) && (gj.op.mdOpds.isEmpty || (!gi.op.isCall && sepAll sep gi.op.rdOpds gj.op.mdOpds))))
structure RegOk (tot : Nat) (gs : List G) (sep : List (Opd × Opd)) (masks : Nat → Nat) : Prop where
  clean : ∀ (i : Nat) (g : G), gs[i]? = some g → g.op.opds.all cleanO = true
  names : ∀ (i j : Nat) (gi gj : G), i ≠ j → gs[i]? = some gi → gs[j]? = some gj → ∀ n b, span (n + gj.op.names.1) gj.op.names.2 b → ¬ span (n + gi.op.names.1) gi.op.names.2 b
  inTot : ∀ (i : Nat) (g : G), gs[i]? = some g → g.op.names.2 ≠ 0 → g.op.names.1 + g.op.names.2 ≤ tot
  pair : ∀ (j i : Nat) (gj gi : G), j < i → gs[j]? = some gj → gs[i]? = some gi → (masks i).testBit j = false → pairOk sep gj gi = true
  stab : sep ≠ [] → ∀ (i : Nat) (g : G), gs[i]? = some g → ∀ t, (.t t ∈ g.op.rdOpds ∨ .t t ∈ g.op.mdOpds) → ∀ (k : Nat) (g' : G), i ≤ k → gs[k]? = some g' → g'.op.dst ≠ some t
theorem runs_slot {gs : List G} {is : List Nat} {t : Nat} (r : Runs E tot gs is σ σf) (cl : ∀ (i : Nat) (g : G), gs[i]? = some g → g.op.opds.all cleanO = true) (h : ∀ i ∈ is, ∀ g, gs[i]? = some g → g.op.dst ≠ some t) : σf.s t = σ.s t := by
  induction r with
  | nil => rfl
  | cons hg d r ih =>
    rw [ih (fun i hi => h i (List.mem_cons_of_mem _ hi))]
    obtain ⟨⟨u, hh, n, h1⟩, _⟩ := d.base (cl _ _ hg)
    rw [h1]
    exact put_at (fun k hk q => h _ List.mem_cons_self _ hg (by rw [hk, q]))
theorem nmX_unT {a : A} {b : Nat} (h : b ∈ nmX a) : b ∈ nmX (unT a) := by
  cases a with
  | ifg g a => simp [nmX, nmIn, A.cells, nmCells, nmCell] at h
  | _ => exact h
theorem nmIn_unT {a : A} {b : Nat} (h : b ∈ nmIn a) : b ∈ nmIn (unT a) := by
  cases a with
  | ifg g a => simp [nmIn] at h
  | _ => exact h
theorem nmX_tau {g : G} {n b : Nat} (h : b ∈ nmX (ev (tauG g σ) (.t n))) : b ∈ nmX (unT (σ.s n)) := by
  cases g with
  | o op => exact nmX_unT h
  | g s w op => exact h
theorem nmIn_tau {g : G} {n b : Nat} (h : b ∈ nmIn (ev (tauG g σ) (.t n))) : b ∈ nmIn (unT (σ.s n)) := by
  cases g with
  | o op => exact nmIn_unT h
  | g s w op => exact h
theorem clean_nmX {a : A} (h : clean a = true) : nmX a = [] ∧ nmP a = [] := by
  cases a with
  | v x => exact ⟨rfl, rfl⟩
  | lit ty r => exact ⟨rfl, rfl⟩
  | agg cs =>
    refine ⟨?_, rfl⟩
    simp only [nmX, nmIn, A.cells, List.nil_append]
    simp only [clean] at h
    induction cs with
    | nil => rfl
    | cons c cs ih =>
      simp only [List.all_cons, Bool.and_eq_true] at h
      simp only [nmCells, ih h.2, List.append_nil]
      cases c <;> first | rfl | (have := h.1; simp [cleanC] at this)
  | fn f caps =>
    cases caps with
    | nil => exact ⟨rfl, rfl⟩
    | cons c cs => simp [clean] at h
  | _ => simp [clean] at h
theorem seps_mem {sep : List (Opd × Opd)} (h : seps σ sep = true) : ∀ p ∈ sep, sepV (ev σ p.1) (ev σ p.2) = true := by
  induction sep with
  | nil => intro p hp; simp at hp
  | cons q qs ih =>
    simp only [seps, Bool.and_eq_true] at h
    intro p hp
    rcases List.mem_cons.1 hp with rfl | hp
    · exact h.1
    · exact ih h.2 p hp
theorem sep_fact {sep : List (Opd × Opd)} {ga gb : G} {xs ys : List Opd} (hs : seps σf sep = true) (ha : sepAll sep xs ys = true) (cx : ∀ x ∈ xs, cleanO x = true) (cy : ∀ y ∈ ys, cleanO y = true)
    (ex : ∀ t, .t t ∈ xs → sep ≠ [] → σf.s t = σ.s t) (ey : ∀ t, .t t ∈ ys → sep ≠ [] → σf.s t = σ.s t) :
    ∀ x ∈ xs, ∀ y ∈ ys, ∀ b, b ∈ nmX (ev (tauG ga σ) x) → b ∈ nmIn (ev (tauG gb σ) y) → False := by
  intro x hx y hy b h1 h2
  have hok := List.all_eq_true.1 (List.all_eq_true.1 ha x hx) y hy
  cases x with
  | k a =>
    have : ev (tauG ga σ) (.k a) = a := by cases ga <;> rfl
    rw [this, (clean_nmX (cx _ hx)).1] at h1
    simp at h1
  | t n =>
    cases y with
    | k a =>
      have : ev (tauG gb σ) (.k a) = a := by cases gb <;> rfl
      rw [this] at h2
      have := (clean_nmX (cy _ hy)).1
      simp only [nmX, List.append_eq_nil_iff] at this
      rw [this.1] at h2
      simp at h2
    | t m =>
      simp only [sepOk, List.any_eq_true] at hok
      obtain ⟨p, hp, he⟩ := hok
      obtain ⟨p1, p2⟩ := p
      cases p1 <;> cases p2 <;> simp at he
      obtain ⟨rfl, rfl⟩ := he
      have hne : sep ≠ [] := fun q => by rw [q] at hp; simp at hp
      have hv := seps_mem hs _ hp
      simp only [ev] at hv
      rw [ex _ hx hne, ey _ hy hne] at hv
      unfold sepV at hv
      have := List.all_eq_true.1 hv b (nmIn_tau h2)
      simp at this
      exact this (nmX_tau h1)
theorem keepIn_at {N : List Nat} {sep : List (Opd × Opd)} (h : keepIn σf N sep = true) : ∀ t, keeps sep t = true → ∀ b ∈ nmX (unT (σf.s t)), b ∈ N := by
  induction sep with
  | nil => intro t ht; simp [keeps] at ht
  | cons p ps ih =>
    intro t ht b hb
    obtain ⟨p1, p2⟩ := p
    have ht' : keeps [(p1, p2)] t = true ∨ keeps ps t = true := by
      simp only [keeps, List.any_cons, List.any_nil, Bool.or_false, Bool.or_eq_true] at ht ⊢
      exact ht
    cases p1 with
    | k a => 
      rcases ht' with h' | h'
      · simp [keeps] at h'
      · exact ih (by simpa [keepIn] using h) t h' b hb
    | t a =>
      cases p2 with
      | t c =>
        rcases ht' with h' | h'
        · simp [keeps] at h'
        · exact ih (by simpa [keepIn] using h) t h' b hb
      | k c =>
        simp only [keepIn, Bool.and_eq_true] at h
        rcases ht' with h' | h'
        · simp [keeps] at h'
          subst h'
          have := List.all_eq_true.1 h.1 b hb
          simpa using this
        · exact ih h.2 t h' b hb
theorem keep_fact {N : List Nat} {sep : List (Opd × Opd)} {g : G} {xs : List Opd} (hk : keepIn σf N sep = true) (ha : xs.all (keepsO sep) = true) (cx : ∀ x ∈ xs, cleanO x = true) (ex : ∀ t, .t t ∈ xs → sep ≠ [] → σf.s t = σ.s t) :
    ∀ x ∈ xs, ∀ b ∈ nmX (ev (tauG g σ) x), b ∈ N := by
  intro x hx b hb
  have hko := List.all_eq_true.1 ha x hx
  cases x with
  | k a =>
    have : ev (tauG g σ) (.k a) = a := by cases g <;> rfl
    rw [this, (clean_nmX (cx _ hx)).1] at hb
    simp at hb
  | t n =>
    have hne : sep ≠ [] := fun q => by rw [q] at hko; simp [keepsO, keeps] at hko
    have := nmX_tau hb
    rw [← ex n hx hne] at this
    exact keepIn_at hk n hko b this
theorem bring {N : List Nat} (hN : EnvKeep E N) {K : Nat → Prop} {gs : List G} {sep : List (Opd × Opd)} {masks : Nat → Nat} (R : RegOk tot gs sep masks) (hs : seps σf sep = true) (hkp : keepIn σf N sep = true) {i : Nat} {gi : G} (hgi : gs[i]? = some gi) : ∀ (L1 L2 : List Nat) (σ : St),
    (∀ j ∈ L1, j < i) → L1.Pairwise (· < ·) → (∀ k ∈ L2, i < k) → (∀ j ∈ L1, (masks i).testBit j = false) →
    (gi.op.light = true ∨ (Kn K gi σ ∧ (∀ j ∈ L1, ∀ gj, gs[j]? = some gj → ∀ b, span (σ.n + gj.op.names.1) gj.op.names.2 b → ¬ K b) ∧ ∀ b, σ.n + tot ≤ b → ¬ K b)) →
    (∀ t, (.t t ∈ gi.op.rdOpds ∨ .t t ∈ gi.op.mdOpds) → sep ≠ [] → σf.s t = σ.s t) →
    Runs E tot gs (L1 ++ i :: L2) σ σf → ∃ σ', Does E tot gi σ σ' ∧ Runs E tot gs (L1 ++ L2) σ' σf := by
  intro L1
  induction L1 with
  | nil =>
    intro L2 σ _ _ _ _ _ _ r
    cases r with
    | cons hg d r =>
      rw [hgi] at hg
      cases hg
      exact ⟨_, d, r⟩
  | cons j L1 ih =>
    intro L2 σ hlt hpw hgt hm hk hst r
    cases r with
    | @cons _ _ gj _ σ1 _ hgj dj r =>
      have hji := hlt j List.mem_cons_self
      have ci := R.clean i gi hgi
      have cj := R.clean j gj hgj
      have hp := R.pair j i gj gi hji hgj hgi (hm j List.mem_cons_self)
      simp only [pairOk, Bool.and_eq_true, Bool.or_eq_true] at hp
      obtain ⟨sl, hp⟩ := hp
      obtain ⟨s1, s2, s3⟩ := slotsApart_spec sl
      have hpw' := List.pairwise_cons.1 hpw
      -- slots that j looks at for its rows stay
      have stJ : ∀ t, (.t t ∈ gj.op.rdOpds ∨ .t t ∈ gj.op.mdOpds) → sep ≠ [] → σf.s t = σ.s t := fun t ht hne => by
        have hall : Runs E tot gs (j :: (L1 ++ i :: L2)) σ σf := .cons hgj dj r
        refine runs_slot hall R.clean (fun k hk g' hg' => R.stab hne j gj hgj t ht k g' ?_ hg')
        rcases List.mem_cons.1 hk with rfl | hk
        · exact Nat.le_refl _
        · rcases List.mem_append.1 hk with hk | hk
          · exact Nat.le_of_lt (hpw'.1 k hk)
          · rcases List.mem_cons.1 hk with rfl | hk
            · exact Nat.le_of_lt hji
            · exact Nat.le_of_lt (Nat.lt_trans hji (hgt k hk))
      have clI : ∀ x ∈ gi.op.opds, cleanO x = true := fun x hx => List.all_eq_true.1 ci x hx
      have clJ : ∀ x ∈ gj.op.opds, cleanO x = true := fun x hx => List.all_eq_true.1 cj x hx
      have mkPair : gi.op.easy = true ∧ gj.op.easy = true → gi.op.light = false → gj.op.light = false → Kn K gi σ → (∀ b, span (σ.n + gj.op.names.1) gj.op.names.2 b → ¬ K b) → Pair K gj gi σ := by
        intro he h1 h2 kn hsp
        rcases hp with (((hp | hp) | hp) | hp) | hp
        · rw [h1] at hp; cases hp
        · rw [h2] at hp; cases hp
        · rw [(isDc_facts hp.1.2).1] at he; cases he.2
        · rw [(isDc_facts hp.1.2).1] at he; cases he.1
        · simp only [Bool.not_eq_true', List.isEmpty_iff] at hp
          obtain ⟨⟨⟨⟨e1, e2⟩, e3⟩, e4⟩, e5⟩ := hp
          refine ⟨sl, hsp, R.names i j gi gj (by omega) hgi hgj σ.n, e3, ?_, ?_, ?_, ?_⟩
          · rcases e4 with h | h
            · exact .inl h
            · exact .inr h.1
          · rcases e5 with h | h
            · exact .inl h
            · exact .inr h.1
          · rcases e4 with h | h
            · intro x _ y hy; rw [h] at hy; simp at hy
            · exact sep_fact hs h.2 (fun x hx => clJ x (rdOpds_sub x hx)) (fun y hy => clI y (mdOpds_sub y hy)) (fun t ht => stJ t (.inl ht)) (fun t ht => hst t (.inr ht))
          · rcases e5 with h | h
            · intro x _ y hy; rw [h] at hy; simp at hy
            · exact sep_fact hs h.2 (fun x hx => clI x (rdOpds_sub x hx)) (fun y hy => clJ y (mdOpds_sub y hy)) (fun t ht => hst t (.inl ht)) (fun t ht => stJ t (.inr ht))
      -- which pair it is
      have kind : gi.op.light = true ∨ gj.op.light = true ∨ (gi.op.easy = true ∧ gj.op.easy = true) ∨ (gi.op.quiet = true ∧ gj.op.isDc = true ∧ ∀ x ∈ gi.op.rdOpds, ∀ b ∈ nmX (ev (tauG gi σ) x), b ∈ N) ∨ (gj.op.quiet = true ∧ gi.op.isDc = true ∧ ∀ x ∈ gj.op.rdOpds, ∀ b ∈ nmX (ev (tauG gj σ) x), b ∈ N) := by
        rcases hp with (((hp | hp) | hp) | hp) | hp
        · exact .inl hp
        · exact .inr (.inl hp)
        · exact .inr (.inr (.inr (.inl ⟨hp.1.1, hp.1.2, keep_fact hkp hp.2 (fun x hx => clI x (rdOpds_sub x hx)) (fun t ht => hst t (.inl ht))⟩)))
        · exact .inr (.inr (.inr (.inr ⟨hp.1.1, hp.1.2, keep_fact hkp hp.2 (fun x hx => clJ x (rdOpds_sub x hx)) (fun t ht => stJ t (.inl ht))⟩)))
        · exact .inr (.inr (.inl hp.1.1.1))
      -- the pair in this state
      have ft : Fits N K gj gi σ := by
        cases h1 : gi.op.light with
        | true => exact .inl h1
        | false =>
          cases h2 : gj.op.light with
          | true => exact .inr (.inl h2)
          | false =>
            rcases hk with h | ⟨kn, hsp, _⟩
            · rw [h1] at h; cases h
            · rcases kind with h | h | h | h | h
              · rw [h1] at h; cases h
              · rw [h2] at h; cases h
              · exact .inr (.inr (.inl ⟨h.1, h.2, kn, mkPair h h1 h2 kn (hsp j List.mem_cons_self gj hgj)⟩))
              · exact .inr (.inr (.inr (.inl h)))
              · exact .inr (.inr (.inr (.inr h)))
      -- behind j
      have hk1 : gi.op.light = true ∨ (Kn K gi σ1 ∧ (∀ j ∈ L1, ∀ gj, gs[j]? = some gj → ∀ b, span (σ1.n + gj.op.names.1) gj.op.names.2 b → ¬ K b) ∧ ∀ b, σ1.n + tot ≤ b → ¬ K b) := by
        cases h1 : gi.op.light with
        | true => exact .inl rfl
        | false =>
          right
          rcases hk with h | ⟨kn, hsp, hout⟩
          · rw [h1] at h; cases h
          · have fin : Kn K gi σ1 → (σ1.n = σ.n ∨ σ.n + tot ≤ σ1.n) → (Kn K gi σ1 ∧ (∀ j ∈ L1, ∀ gj, gs[j]? = some gj → ∀ b, span (σ1.n + gj.op.names.1) gj.op.names.2 b → ¬ K b) ∧ ∀ b, σ1.n + tot ≤ b → ¬ K b) := by
              intro kn1 hn
              refine ⟨kn1, fun k hk' gk hgk b hb => ?_, fun b hb => ?_⟩
              · rcases hn with hn | hn
                · rw [hn] at hb; exact hsp k (List.mem_cons_of_mem _ hk') gk hgk b hb
                · exact hout b (by simp only [span] at hb; omega)
              · exact hout b (by rcases hn with hn | hn <;> omega)
            rcases kind with h | h | h | h | h
            · rw [h1] at h; cases h
            · obtain ⟨kn1, hn⟩ := kn.step ci cj sl dj (.inl h)
              exact fin kn1 (.inl hn)
            · cases h2 : gj.op.light with
              | true =>
                obtain ⟨kn1, hn⟩ := kn.step ci cj sl dj (.inl h2)
                exact fin kn1 (.inl hn)
              | false =>
                obtain ⟨kn1, hn⟩ := kn.step ci cj sl dj (.inr ⟨h.2, mkPair h h1 h2 kn (hsp j List.mem_cons_self gj hgj)⟩)
                exact fin kn1 (.inl hn)
            · obtain ⟨q1, _, q3, _⟩ := quiet_facts h.1
              exact fin (kn.still cj sl dj (.inr ⟨q1, q3⟩) (.inr q1)) (dj.kept hN h.2.1).2
            · have hh : σ1.h = σ.h ∧ σ1.n = σ.n := by
                cases dj with
                | run ha e => obtain ⟨u, e1, _⟩ := stepG_quiet h.1 cj ha e; rw [e1]; exact ⟨rfl, rfl⟩
                | skip ht hu => exact ⟨rfl, rfl⟩
              exact fin (kn.still cj sl dj (.inl hh.1) (.inl hh.2)) (.inl hh.2)
      have hst1 : ∀ t, (.t t ∈ gi.op.rdOpds ∨ .t t ∈ gi.op.mdOpds) → sep ≠ [] → σf.s t = σ1.s t := fun t ht hne => by
        rw [hst t ht hne]
        obtain ⟨⟨u, hh, n, h1⟩, _⟩ := dj.base cj
        have hin : .t t ∈ gi.op.opds := by
          rcases ht with ht | ht
          · exact rdOpds_sub _ ht
          · exact mdOpds_sub _ ht
        rw [h1]
        exact (agG_sub (g := gi) (σ2 := ⟨put σ.s gj.op.dst u, hh, n, σ.base⟩) (ag_put s1) hin).symm
      obtain ⟨σ1', d1, r1⟩ := ih L2 σ1 (fun k hk => hlt k (List.mem_cons_of_mem _ hk)) hpw'.2 hgt (fun k hk => hm k (List.mem_cons_of_mem _ hk)) hk1 hst1 r
      obtain ⟨σ', d2, d3⟩ := swap hN ci cj sl ft dj d1
      exact ⟨σ', d2, .cons hgj d3 r1⟩
end Go.Vm

/-
  Regions, in order and in any order.
-/
set_option linter.unusedVariables false
set_option linter.unusedSimpArgs false
namespace Go.Vm
open Go.RowKit
variable {P : Program} {ρ ρ' ρ'' : Rho} {S S' S'' : Nat → Prop} {w w' w'' : World} {B N : Nat} {h : Hp} {E : Env} {tot base : Nat}
theorem does_sound (hE : EnvOk P E) {σ σ' : St} {a : Act} {ops : Array Oper} {i : Nat} {o : Oper} {g : G} {Q : Exit → Act → World → Prop} (hi : ops[i]? = some o) (T : SW P ρ S B N σ a w) (ok : okG P N ops o g = true)
    (hf : ∀ b, lays tot σ.n g.op b → ρ b = none) (d : Does E tot g σ σ') {K : Act → World → Prop}
    (k : ∀ v w', Fin' P B ρ S w (lays tot σ.n g.op) g.op.isD σ σ' g.op.dst v w' → K (a.put o.dst v) w') : wpOp P ops Q i K a w := by
  cases d with
  | run ha e => exact op_sound hE hi T ok hf e k
  | @skip s wt op _ u ht hu =>
    unfold wpOp
    rw [hi]
    simp only [okG, Bool.and_eq_true, decide_eq_true_eq] at ok
    obtain ⟨⟨⟨ok1, ok2⟩, ok3⟩, ok4⟩ := ok
    have ok4' : ∃ j w1, o.guard = some (j, w1) ∧ w1 = wt ∧ (ops[j]?).bind (·.dst) = some s := by
      cases hg : o.guard with
      | none => rw [hg] at ok4; simp at ok4
      | some p =>
        obtain ⟨j, w1⟩ := p
        rw [hg] at ok4
        simp only [Bool.and_eq_true, beq_iff_eq, decide_eq_true_eq] at ok4
        exact ⟨j, w1, rfl, ok4.1, ok4.2⟩
    obtain ⟨j, w1, hg, hw, hs⟩ := ok4'
    have hwant := wanted_of T hg hw hs ht
    simp only [hwant]
    simp only [Bool.false_eq_true, if_false]
    refine k undef w ⟨u, rfl, ρ, S, Mv.refl _ _ _ _ _, T.heap, ?_, .inl ⟨rfl, .inr fun _ h => h⟩⟩
    rcases hu with rfl | ⟨a', rfl⟩
    · exact .und
    · exact .ifF a'
structure MvX (base B : Nat) (ρ : Rho) (S : Nat → Prop) (w : World) (ρ' : Rho) (S' : Nat → Prop) (w' : World) : Prop where
  same : ∀ b, b < base → ρ' b = ρ b
  sub : ∀ k, S k → S' k
  ext : Ext S w w'
  below : Below B w w'
  back : ∀ k, S' k → S k ∨ B ≤ k
theorem MvX.refl : MvX base B ρ S w ρ S w := ⟨fun _ _ => rfl, fun _ h => h, Ext.refl _ _, Below.refl _ _, fun _ h => .inl h⟩
theorem MvX.trans (a : MvX base B ρ S w ρ' S' w') (b : MvX base B ρ' S' w' ρ'' S'' w'') : MvX base B ρ S w ρ'' S'' w'' :=
  ⟨fun x hx => (b.same x hx).trans (a.same x hx), fun k e => b.sub k (a.sub k e), a.ext.trans a.sub b.ext, a.below.trans b.below, fun k hk => by rcases b.back k hk with h | h; exact a.back k h; exact .inr h⟩
theorem Mv.x {iv : Nat → Prop} (m : Mv B ρ S w ρ' S' w' iv) (h : ∀ b, iv b → base ≤ b) : MvX base B ρ S w ρ' S' w' := by
  refine ⟨fun b hb => ?_, m.sub, m.ext, m.below, m.back⟩
  cases hr : ρ b with
  | some l => exact m.le b l hr
  | none => exact m.new b hr (fun q => by have := h b q; omega)
theorem lays_ge {n : Nat} {op : AOp} {b : Nat} (h : lays tot n op b) : n ≤ b := by
  unfold lays at h
  split at h
  · omega
  · simp only [span] at h; omega
structure Fr (ρ : Rho) (tot n : Nat) (gs : List G) (is : List Nat) : Prop where
  at_ : ∀ i ∈ is, ∀ g, gs[i]? = some g → ∀ b, span (n + g.op.names.1) g.op.names.2 b → ρ b = none
  out : ∀ b, n + tot ≤ b → ρ b = none
theorem Fr.lays {n : Nat} {gs : List G} {is : List Nat} (f : Fr ρ tot n gs is) {i : Nat} (hi : i ∈ is) {g : G} (hg : gs[i]? = some g) : ∀ b, lays tot n g.op b → ρ b = none := by
  intro b hb
  unfold Vm.lays at hb
  split at hb
  · exact f.out b hb
  · exact f.at_ i hi g hg b hb
theorem Fr.step {gs : List G} {is js : List Nat} {i : Nat} {g : G} {n n' : Nat} (f : Fr ρ tot n gs is) (hi : i ∈ is) (hg : gs[i]? = some g) (hsub : ∀ k ∈ js, k ∈ is ∧ k ≠ i)
    (names : ∀ (i j : Nat) (gi gj : G), i ≠ j → gs[i]? = some gi → gs[j]? = some gj → ∀ n b, span (n + gj.op.names.1) gj.op.names.2 b → ¬ span (n + gi.op.names.1) gi.op.names.2 b) (inTot : ∀ (i : Nat) (g : G), gs[i]? = some g → g.op.names.2 ≠ 0 → g.op.names.1 + g.op.names.2 ≤ tot)
    {ρ' : Rho} (hnew : ∀ b, ρ b = none → ¬ Vm.lays tot n g.op b → ρ' b = none) (hn : (n' = n ∧ (g.op.isD = false ∨ ∀ b, ρ b = none → ρ' b = none)) ∨ (n ≤ n' ∧ ∀ b, n' ≤ b → ρ' b = none)) : Fr ρ' tot n' gs js := by
  rcases hn with ⟨rfl, hd⟩ | ⟨hle, hall⟩
  · have hkeep : ∀ b, ρ b = none → (g.op.isD = false → ¬ Vm.lays tot n' g.op b) → ρ' b = none := fun b hb hq => by
      rcases hd with hd | hd
      · exact hnew b hb (hq hd)
      · exact hd b hb
    refine ⟨fun k hk gk hgk b hb => ?_, fun b hb => ?_⟩
    · obtain ⟨h1, h2⟩ := hsub k hk
      refine hkeep b (f.at_ k h1 gk hgk b hb) (fun hd q => ?_)
      unfold Vm.lays at q
      rw [hd] at q
      simp only [Bool.false_eq_true, if_false] at q
      exact names i k g gk (fun e => h2 e.symm) hg hgk _ b hb q
    · refine hkeep b (f.out b hb) (fun hd q => ?_)
      unfold Vm.lays at q
      rw [hd] at q
      simp only [Bool.false_eq_true, if_false, span] at q
      have := inTot i g hg (by omega)
      omega
  · exact ⟨fun k hk gk hgk b hb => hall b (by simp only [span] at hb; omega), fun b hb => hall b (by omega)⟩
theorem reg_ordered (hE : EnvOk P E) {ops : Array Oper} {gs : List G} {Q : Exit → Act → World → Prop} (hlen : gs.length = ops.size) (okg : ∀ (i : Nat) (o : Oper) (g : G), ops[i]? = some o → gs[i]? = some g → okG P N ops o g = true)
    (names : ∀ (i j : Nat) (gi gj : G), i ≠ j → gs[i]? = some gi → gs[j]? = some gj → ∀ n b, span (n + gj.op.names.1) gj.op.names.2 b → ¬ span (n + gi.op.names.1) gi.op.names.2 b) (inTot : ∀ (i : Nat) (g : G), gs[i]? = some g → g.op.names.2 ≠ 0 → g.op.names.1 + g.op.names.2 ≤ tot) {σf : St} :
    ∀ (rest : List G) (k : Nat) (ρ : Rho) (S : Nat → Prop) (σ : St) (a : Act) (w : World), gs.drop k = rest → k ≤ gs.length → SW P ρ S B N σ a w → Fr ρ tot σ.n gs (List.range' k rest.length) → base ≤ σ.n → steps E tot rest σ = some σf →
      (∀ ρ' S' a' w', MvX base B ρ S w ρ' S' w' → SW P ρ' S' B N σf a' w' → (∀ b, σf.n + tot ≤ b → ρ' b = none) → Q .normal a' w') → wpOps P ops Q (List.range' k rest.length) a w
  | [], k, ρ, S, σ, a, w, hd, hk, T, f, hb, e, q => by
    simp only [steps, Option.some.injEq] at e
    subst e
    exact q ρ S a w MvX.refl T f.out
  | g :: rest, k, ρ, S, σ, a, w, hd, hk, T, f, hb, e, q => by
    obtain ⟨σ1, h1, e1⟩ := bnd_eq e
    have hgk : gs[k]? = some g := by
      have := congrArg (·[0]?) hd
      simpa [List.getElem?_drop] using this
    have hkl : k < gs.length := (List.getElem?_eq_some_iff.1 hgk).1
    obtain ⟨o, ho⟩ : ∃ o, ops[k]? = some o := ⟨ops[k]'(by omega), Array.getElem?_eq_getElem (by omega)⟩
    have hok := okg k o g ho hgk
    have hmem : k ∈ List.range' k (g :: rest).length := by simp [List.mem_range']
    show wpOps P ops Q (List.range' k (rest.length + 1)) a w
    rw [List.range'_succ, wpOps_cons]
    refine op_sound hE ho T hok (f.lays hmem hgk) h1 (fun v w1 hf => ?_)
    simp only [okG, Bool.and_eq_true, decide_eq_true_eq] at hok
    rw [hok.1.1.2] at *
    obtain ⟨ρ1, S1, M, T1, hbase, hn⟩ := hf.SW T hok.1.2
    have hd' : gs.drop (k + 1) = rest := by
      have := congrArg List.tail hd
      simpa [List.tail_drop] using this
    have hsub : ∀ j ∈ List.range' (k + 1) rest.length, j ∈ List.range' k (g :: rest).length ∧ j ≠ k := by
      intro j hj
      simp only [List.mem_range'_1, List.length_cons] at hj ⊢
      omega
    have f1 := f.step hmem hgk hsub names inTot (fun b h1 h2 => M.new b h1 h2) hn
    refine reg_ordered hE hlen okg names inTot rest (k + 1) ρ1 S1 σ1 _ w1 hd' (by omega) T1 f1 (by rcases hn with h | h <;> omega) e1 (fun ρ2 S2 a2 w2 M2 T2 h2 => q ρ2 S2 a2 w2 ((M.x (fun b hb' => by have := lays_ge hb'; omega)).trans M2) T2 h2)
end Go.Vm

/-
  A region that draws its order.
-/
set_option linter.unusedVariables false
set_option linter.unusedSimpArgs false
namespace Go.Vm
open Go.RowKit
variable {P : Program} {ρ ρ' ρ'' : Rho} {S S' S'' : Nat → Prop} {w w' w'' : World} {B N : Nat} {h : Hp} {E : Env} {tot base : Nat}
def bitPred (m : Nat → Nat) (o : Oper) : Nat := o.after.toList.foldl (fun s e => if Region.binds .any e then s ||| 2 ^ e.on ||| m e.on else s) 0
theorem foldl_bits (m : Nat → Nat) (j : Nat) : ∀ (l : List Edge) (s : Nat), (l.foldl (fun s e => if Region.binds .any e then s ||| 2 ^ e.on ||| m e.on else s) s).testBit j = true →
    s.testBit j = true ∨ ∃ e ∈ l, Region.binds .any e = true ∧ (e.on = j ∨ (m e.on).testBit j = true)
  | [], s, h => .inl h
  | e :: l, s, h => by
    simp only [List.foldl_cons] at h
    rcases foldl_bits m j l _ h with h | ⟨e', he, r⟩
    · split at h
      · rename_i hb
        simp only [Nat.testBit_or, Bool.or_eq_true, Nat.testBit_two_pow, decide_eq_true_eq] at h
        rcases h with (h | h) | h
        · exact .inl h
        · exact .inr ⟨e, by simp, hb, .inl h⟩
        · exact .inr ⟨e, by simp, hb, .inr h⟩
      · exact .inl h
    · exact .inr ⟨e', by simp [he], r⟩
theorem bitPred_spec {m : Nat → Nat} {o : Oper} {j : Nat} (h : (bitPred m o).testBit j = true) : ∃ e ∈ o.after, Region.binds .any e = true ∧ (e.on = j ∨ (m e.on).testBit j = true) := by
  rcases foldl_bits m j _ 0 h with h | ⟨e, he, r⟩
  · simp at h
  · exact ⟨e, by simpa using he, r⟩
structure MaskOk (ops : Array Oper) (masks : Nat → Nat) : Prop where
  at_ : ∀ (i : Nat) (o : Oper), ops[i]? = some o → masks i = bitPred masks o
  edge : ∀ (i : Nat) (o : Oper), ops[i]? = some o → ∀ e ∈ o.after, Region.binds .any e = true → e.on < i
theorem mask_closed {ops : Array Oper} {masks : Nat → Nat} (M : MaskOk ops masks) {X : Nat → Prop} (hX : ∀ (i : Nat) (o : Oper), ops[i]? = some o → X i → ∀ e ∈ o.after, Region.binds .any e = true → X e.on) :
    ∀ (i : Nat) (o : Oper), ops[i]? = some o → (∀ e ∈ o.after, Region.binds .any e = true → X e.on) → ∀ j, (masks i).testBit j = true → X j := by
  intro i
  induction i using Nat.strongRecOn with
  | _ i ih =>
    intro o ho hpre j hj
    rw [M.at_ i o ho] at hj
    obtain ⟨e, he, hb, h⟩ := bitPred_spec hj
    have hXe := hpre e he hb
    rcases h with rfl | h
    · exact hXe
    · have hlt := M.edge i o ho e he hb
      have hi : i < ops.size := (Array.getElem?_eq_some_iff.1 ho).1
      have hoe : ops[e.on]? = some (ops[e.on]'(by omega)) := Array.getElem?_eq_getElem (by omega)
      exact ih e.on hlt _ hoe (hX e.on _ hoe hXe) j h
theorem nmX_known {a : A} {x : Value} (r : R P ρ S w a x) : ∀ b, b ∈ nmX a ∨ b ∈ nmP a → ρ b ≠ none := by
  intro b hb
  have cells : ∀ (as : List A) (vs : List Value), RL P ρ S w as vs → b ∈ nmCells as → ρ b ≠ none := fun as vs r h => nmCells_known r h
  cases r with
  | ref ty b' off len cap ex k sz c ad h1 =>
    simp [nmX, nmIn, A.cells, nmCells, nmCell, nmP] at hb; subst hb; rw [h1]; simp
  | nil ty b' ex h1 => simp [nmX, nmIn, A.cells, nmCells, nmCell, nmP] at hb; subst hb; rw [h1]; simp
  | ptr b' i j k sz h1 => simp [nmX, nmIn, A.cells, nmCells, nmCell, nmP] at hb; subst hb; rw [h1]; simp
  | agg cs vs hl hr =>
    rcases hb with hb | hb
    · simp only [nmX, nmIn, A.cells, List.nil_append] at hb
      exact cells cs vs ⟨hl, hr⟩ hb
    · simp [nmP] at hb
  | fn f caps vs hp hl hr =>
    rcases hb with hb | hb
    · simp [nmX, nmIn, A.cells, nmCells, nmCell] at hb
    · simp only [nmP] at hb
      have : ∀ (as : List A) (vs : List Value), areCaps as = true → RL P ρ S w as vs → b ∈ nmIns as → ρ b ≠ none := by
        intro as
        induction as with
        | nil => intro vs _ _ h; simp [nmIns] at h
        | cons a as ih =>
          intro vs hp r h
          simp only [areCaps, Bool.and_eq_true] at hp
          obtain ⟨x, xs, rfl, r1, r2⟩ := r.inv_cons
          simp only [nmIns, List.mem_append] at h
          rcases h with h | h
          · cases r1 with
            | ptr b' i j k sz h1 => simp [nmIn] at h; subst h; rw [h1]; simp
            | pl row j k o Y h1 h2 h3 => simp [nmIn] at h
            | _ => simp [isCap] at hp
          · exact ih xs hp.2 r2 h
      exact this caps vs hp ⟨hl, hr⟩ hb
  | _ => simp [nmX, nmIn, A.cells, nmCells, nmCell, nmP] at hb
theorem kn_of {σ : St} {a : Act} {gi : G} (T : SW P ρ S B N σ a w) (cl : gi.op.opds.all cleanO = true) (hf : ∀ b, span (σ.n + gi.op.names.1) gi.op.names.2 b → ρ b = none) : Kn (fun b => ρ b ≠ none) gi σ := by
  refine ⟨fun x hx b hb => ?_, fun _ c hc k hk row hrow b hb => ?_, fun b hb => ?_⟩
  · cases x with
    | t n =>
      have r : R P ρ S w (ev (tauG gi σ) (.t n)) (a.tmps.getD n undef) := by
        cases gi with
        | o op => exact T.slot n
        | g s wt op => exact unT_R (T.slot n)
      exact nmX_known r b hb
    | k v =>
      have : ev (tauG gi σ) (.k v) = v := by cases gi <;> rfl
      rw [this] at hb
      have hc := List.all_eq_true.1 cl _ hx
      obtain ⟨h1, h2⟩ := clean_nmX (a := v) hc
      rw [h1, h2] at hb
      simp at hb
  · rcases T.heap.at_ c k hk with ⟨k', sz, hb', hB⟩ | ⟨_, hr, _⟩
    · obtain ⟨cs, _, _, hcell⟩ := hB.here
      obtain ⟨i, hi⟩ := List.getElem?_of_mem hrow
      -- the cell of the row that bears the name
      have : ∀ (r : List A) (j0 : Nat), (∀ (j : Nat) (x : A), r[j]? = some x → ∃ y, R P ρ S w x y) → b ∈ nmCells r → ρ b ≠ none := by
        intro r
        induction r with
        | nil => intro _ _ h; simp [nmCells] at h
        | cons x r ih =>
          intro j0 h hbm
          simp only [nmCells, List.mem_append] at hbm
          rcases hbm with hbm | hbm
          · obtain ⟨y, hy⟩ := h 0 x rfl
            exact nmCell_known hy hbm
          · exact ih 0 (fun j x hx => h (j + 1) x (by simpa using hx)) hbm
      exact this row 0 (fun j x hx => by obtain ⟨y, _, hr⟩ := hcell i row j x hi hx; exact ⟨y, hr⟩) hb
    · rw [hr] at hrow; simp at hrow
  · cases hs : σ.h b with
    | none => rfl
    | some k => exact absurd (hf b hb) (T.heap.known hs)
theorem reg_any {N0 : List Nat} (hN : EnvKeep E N0) (hE : EnvOk P E) {ops : Array Oper} {gs : List G} {sep : List (Opd × Opd)} {masks : Nat → Nat} {Q : Exit → Act → World → Prop} (hlen : gs.length = ops.size) (okg : ∀ (i : Nat) (o : Oper) (g : G), ops[i]? = some o → gs[i]? = some g → okG P N ops o g = true)
    (RO : RegOk tot gs sep masks) (MO : MaskOk ops masks) {σf : St} (hs : seps σf sep = true) (hkp : keepIn σf N0 sep = true) :
    ∀ (fuel : Nat) (listed : Array Bool) (is : List Nat) (ρ : Rho) (S : Nat → Prop) (σ : St) (a : Act) (w : World), listed.size = ops.size → is.Pairwise (· < ·) → (∀ i, i ∈ is ↔ i < ops.size ∧ listed.getD i true = false) →
      (∀ (i : Nat) (o : Oper), ops[i]? = some o → listed.getD i true = true → ∀ e ∈ o.after, Region.binds .any e = true → listed.getD e.on true = true) → is.length ≤ fuel →
      SW P ρ S B N σ a w → Fr ρ tot σ.n gs is → base ≤ σ.n → Runs E tot gs is σ σf →
      (∀ ρ' S' a' w', MvX base B ρ S w ρ' S' w' → SW P ρ' S' B N σf a' w' → (∀ b, σf.n + tot ≤ b → ρ' b = none) → Q .normal a' w') → wpAny P .any ops Q fuel listed a w := by
  intro fuel
  induction fuel with
  | zero =>
    intro listed is ρ S σ a w hsz hpw hmem hcl hfu T f hb r q
    have hnil : is = [] := List.eq_nil_of_length_eq_zero (by omega)
    subst hnil
    cases r with
    | nil =>
      refine ⟨?_, q ρ S a w MvX.refl T f.out⟩
      unfold Region.ready
      rw [List.filter_eq_nil_iff]
      intro i hi
      simp only [List.mem_range] at hi
      have : listed.getD i true = true := by
        cases h : listed.getD i true with
        | true => rfl
        | false => have := (hmem i).2 ⟨hi, h⟩; simp at this
      rw [this]
      simp
  | succ fuel ih =>
    intro listed is ρ S σ a w hsz hpw hmem hcl hfu T f hb r q
    refine ⟨fun hr => ?_, fun i hi => ?_⟩
    · -- nothing is ready: all is done
      cases is with
      | nil =>
        cases r with
        | nil => exact q ρ S a w MvX.refl T f.out
      | cons i is =>
        exfalso
        obtain ⟨hi1, hi2⟩ := (hmem i).1 List.mem_cons_self
        have hmin : ∀ j, j < i → listed.getD j true = true := fun j hj => by
          cases hq : listed.getD j true with
          | true => rfl
          | false =>
            have hjm := (hmem j).2 ⟨by omega, hq⟩
            have hp := List.pairwise_cons.1 hpw
            rcases List.mem_cons.1 hjm with rfl | hjm
            · omega
            · have := hp.1 j hjm; omega
        have ho : ops[i]? = some ops[i] := Array.getElem?_eq_getElem hi1
        have : i ∈ Region.ready .any ops listed := mem_ready.2 ⟨hi2, _, ho, fun e he hbn => by
          have hlt := MO.edge i _ ho e he hbn
          have h1 := hmin e.on hlt
          have hes : e.on < listed.size := by omega
          simp [Array.getD, hes] at h1 ⊢
          exact h1⟩
        rw [hr] at this
        simp at this
    · obtain ⟨hun, o, ho, hpre⟩ := mem_ready.1 hi
      have hi1 : i < ops.size := (Array.getElem?_eq_some_iff.1 ho).1
      have him : i ∈ is := (hmem i).2 ⟨hi1, hun⟩
      obtain ⟨L1, L2, rfl⟩ := List.append_of_mem him
      obtain ⟨g, hg⟩ : ∃ g, gs[i]? = some g := ⟨gs[i]'(by omega), List.getElem?_eq_getElem (by omega)⟩
      have hok := okg i o g ho hg
      have hp2 := List.pairwise_append.1 hpw
      have hp3 := List.pairwise_cons.1 hp2.2.1
      have hl1 : ∀ j ∈ L1, j < i := fun j hj => hp2.2.2 j hj i List.mem_cons_self
      have getT : ∀ k, listed.getD k false = true → listed.getD k true = true := fun k hk => by
        by_cases hks : k < listed.size
        · simp [Array.getD, hks] at hk ⊢; exact hk
        · simp [Array.getD, hks] at hk
      have hmask : ∀ j ∈ L1, (masks i).testBit j = false := fun j hj => by
        cases hq : (masks i).testBit j with
        | false => rfl
        | true =>
          have := mask_closed MO (X := fun k => listed.getD k true = true) hcl i o ho (fun e he hbn => getT _ (hpre e he hbn)) j hq
          have hj2 := ((hmem j).1 (by simp [hj])).2
          rw [hj2] at this; cases this
      have kn := kn_of T (RO.clean i g hg) (f.at_ i him g hg)
      have hstab : ∀ t, (.t t ∈ g.op.rdOpds ∨ .t t ∈ g.op.mdOpds) → sep ≠ [] → σf.s t = σ.s t := fun t ht hne => by
        refine runs_slot r RO.clean (fun k hk g' hg' => ?_)
        rcases List.mem_append.1 hk with hk | hk
        · -- an operation that i need not wait for
          have hpr := RO.pair k i g' g (hl1 k hk) hg' hg (hmask k hk)
          simp only [pairOk, Bool.and_eq_true] at hpr
          obtain ⟨s1, _, _⟩ := slotsApart_spec hpr.1
          intro hd
          refine s1 t hd ?_
          have hin : .t t ∈ g.op.opds := by
            rcases ht with ht | ht
            · exact rdOpds_sub _ ht
            · exact mdOpds_sub _ ht
          cases g with
          | o op => exact opdSlots_mem hin
          | g s wt op => exact List.mem_cons_of_mem _ (opdSlots_mem hin)
        · refine RO.stab hne i g hg t ht k g' ?_ hg'
          rcases List.mem_cons.1 hk with rfl | hk
          · exact Nat.le_refl _
          · exact Nat.le_of_lt (hp3.1 k hk)
      obtain ⟨σ1, hd, hr⟩ := bring hN RO hs hkp hg L1 L2 σ hl1 hp2.1 hp3.1 hmask (.inr ⟨kn, fun j hj gj hgj b hb' hk => hk (f.at_ j (by simp [hj]) gj hgj b hb'), fun b hb' hk => hk (f.out b hb')⟩) hstab r
      refine does_sound hE ho T hok (f.lays him hg) hd (fun v w1 hf => ?_)
      have hok' := hok
      simp only [okG, Bool.and_eq_true, decide_eq_true_eq] at hok'
      rw [hok'.1.1.2] at *
      obtain ⟨ρ1, S1, M, T1, hbase, hn⟩ := hf.SW T hok'.1.2
      have hnd : i ∉ L1 ++ L2 := fun hm => by
        rcases List.mem_append.1 hm with hm | hm
        · exact Nat.lt_irrefl _ (hl1 i hm)
        · exact Nat.lt_irrefl _ (hp3.1 i hm)
      have hsub : ∀ j ∈ L1 ++ L2, j ∈ L1 ++ i :: L2 ∧ j ≠ i := fun j hj => ⟨by
        rcases List.mem_append.1 hj with hj | hj
        · simp [hj]
        · simp [hj], fun q => hnd (q ▸ hj)⟩
      have f1 := f.step him hg hsub RO.names RO.inTot (fun b h1 h2 => M.new b h1 h2) hn
      have hil : i < listed.size := by omega
      have hset : ∀ k d, (listed.setIfInBounds i true).getD k d = if k = i then true else listed.getD k d := fun k d => by
        by_cases hk : k = i
        · subst hk; simp [Array.getD, hil]
        · rw [if_neg hk, getD_set_ne d (fun q => hk q.symm)]
      refine ih (listed.setIfInBounds i true) (L1 ++ L2) ρ1 S1 σ1 _ w1 (by simp [hsz]) ?_ (fun k => ?_) (fun k ok hok hk e he hbn => ?_) (by simp at hfu ⊢; omega) T1 f1 (by rcases hn with h | h <;> omega) hr (fun ρ2 S2 a2 w2 M2 T2 h2 => q ρ2 S2 a2 w2 ((M.x (fun b hb' => by have := lays_ge hb'; omega)).trans M2) T2 h2)
      · rw [List.pairwise_append]
        exact ⟨hp2.1, hp3.2, fun x hx y hy => hp2.2.2 x hx y (List.mem_cons_of_mem _ hy)⟩
      · rw [hset]
        constructor
        · intro hk
          have h1 := hsub k hk
          have h2 := (hmem k).1 h1.1
          exact ⟨h2.1, by rw [if_neg h1.2]; exact h2.2⟩
        · rintro ⟨h1, h2⟩
          by_cases hki : k = i
          · rw [if_pos hki] at h2; cases h2
          · rw [if_neg hki] at h2
            have := (hmem k).2 ⟨h1, h2⟩
            rcases List.mem_append.1 this with h | h
            · simp [h]
            · rcases List.mem_cons.1 h with h | h
              · exact absurd h hki
              · simp [h]
      · rw [hset] at hk ⊢
        split
        · rfl
        · by_cases hki : k = i
          · subst hki
            rw [ho] at hok
            cases hok
            exact getT _ (hpre e he hbn)
          · rw [if_neg hki] at hk
            exact hcl k ok hok hk e he hbn
end Go.Vm

/-
  The test that code of the abstract machine is a lowering of the program's code.
-/
set_option linter.unusedVariables false
set_option linter.unusedSimpArgs false
namespace Go.Vm
open Go.RowKit
def okGl (P : Program) (N : Nat) (ops : Array Oper) : List Oper → List G → Bool
  | [], [] => true
  | o :: os, g :: gs => okG P N ops o g && okGl P N ops os gs
  | _, _ => false
def okNames (tot : Nat) : List G → Nat → Bool
  | [], c => decide (c ≤ tot)
  | g :: gs, c => (g.op.names.2 == 0 && okNames tot gs c) || (g.op.names.1 == c && okNames tot gs (c + g.op.names.2))
def okClean (gs : List G) : Bool := gs.all fun g => g.op.opds.all cleanO
def okMasks (m : Nat → Nat) : List Oper → Nat → Bool
  | [], _ => true
  | o :: os, i => (m i == bitPred m o) && o.after.toList.all (fun e => !Region.binds .any e || decide (e.on < i)) && okMasks m os (i + 1)
def okAgainst (sep : List (Opd × Opd)) (mask : Nat) (g : G) : List G → Nat → Bool
  | [], _ => true
  | gj :: gs, j => (mask.testBit j || pairOk sep gj g) && okAgainst sep mask g gs (j + 1)
def okPairs (sep : List (Opd × Opd)) (m : Nat → Nat) (pre : List G) : List G → Nat → Bool
  | [], _ => true
  | g :: gs, i => okAgainst sep (m i) g pre 0 && okPairs sep m (pre ++ [g]) gs (i + 1)
def okStab : List G → Bool
  | [] => true
  | g :: gs => (opdSlots (g.op.rdOpds ++ g.op.mdOpds)).all (fun t => (g :: gs).all fun g' => g'.op.dst != some t) && okStab gs
def maskFn (ms : List Nat) (i : Nat) : Nat := ms.getD i 0
def okReg (P : Program) (N tot : Nat) (sep : List (Opd × Opd)) (ops : Array Oper) (draw : Bool) (gs : List G) : Bool :=
  okGl P N ops ops.toList gs && okNames tot gs 0 && (if draw then
    okClean gs && okMasks (maskFn (Region.before ops).toList) ops.toList 0 && okPairs sep (maskFn (Region.before ops).toList) [] gs 0 && (sep.isEmpty || okStab gs)
  else sep.isEmpty)
def noKeep (sep : List (Opd × Opd)) : Bool := sep.all fun p => match p.1, p.2 with
  | .t _, .k _ => false
  | _, _ => true
def okCode (P : Program) (N : Nat) : ACode → Code → Bool
  | .sk, .skip => true
  | .rg tot _ gs, .region _ ops draw => okReg P N tot [] ops draw gs
  | .rgs tot sep gs, .region _ ops draw => okReg P N tot sep ops draw gs && noKeep sep
  | .rgk tot sep _ gs, .region _ ops draw => okReg P N tot sep ops draw gs
  | .sq a b, .seq x y => okCode P N a x && okCode P N b y
  | .ite c a b, .cond c' x y => okOpd c' c && okCode P N a x && okCode P N b y
  | .bl i c, .block j x => decide (i = j) && okCode P N c x
  | .lp _ c, .loop x => okCode P N c x
  | .xt i, .exit j => decide (i = j)
  | .rt, .ret => true
  | _, _ => false
variable {P : Program} {N tot : Nat} {ops : Array Oper}
theorem okGl_at : ∀ {os : List Oper} {gs : List G}, okGl P N ops os gs = true → gs.length = os.length ∧ ∀ (i : Nat) (o : Oper) (g : G), os[i]? = some o → gs[i]? = some g → okG P N ops o g = true
  | [], [], _ => ⟨rfl, fun i o g h => by simp at h⟩
  | [], _ :: _, h => by simp [okGl] at h
  | _ :: _, [], h => by simp [okGl] at h
  | o :: os, g :: gs, h => by
    simp only [okGl, Bool.and_eq_true] at h
    obtain ⟨h1, h2⟩ := okGl_at h.2
    refine ⟨by simp [h1], fun i o' g' e1 e2 => ?_⟩
    cases i with
    | zero => simp at e1 e2; subst e1; subst e2; exact h.1
    | succ i => exact h2 i o' g' (by simpa using e1) (by simpa using e2)
theorem okNames_at : ∀ {gs : List G} {c : Nat}, okNames tot gs c = true → (∀ (i : Nat) (g : G), gs[i]? = some g → g.op.names.2 ≠ 0 → c ≤ g.op.names.1 ∧ g.op.names.1 + g.op.names.2 ≤ tot) ∧ c ≤ tot ∧
    ∀ (i j : Nat) (gi gj : G), i < j → gs[i]? = some gi → gs[j]? = some gj → gi.op.names.2 ≠ 0 → gj.op.names.2 ≠ 0 → gi.op.names.1 + gi.op.names.2 ≤ gj.op.names.1
  | [], c, h => by
    simp only [okNames, decide_eq_true_eq] at h
    exact ⟨fun i g e => by simp at e, h, fun i j gi gj _ e => by simp at e⟩
  | g :: gs, c, h => by
    simp only [okNames, Bool.or_eq_true, Bool.and_eq_true, beq_iff_eq] at h
    rcases h with ⟨h0, h⟩ | ⟨h0, h⟩
    · obtain ⟨q1, q2, q3⟩ := okNames_at h
      refine ⟨fun i g' e hne => ?_, q2, fun i j gi gj hij e1 e2 n1 n2 => ?_⟩
      · cases i with
        | zero => simp at e; subst e; exact absurd h0 hne
        | succ i => exact q1 i g' (by simpa using e) hne
      · cases j with
        | zero => omega
        | succ j =>
          cases i with
          | zero => simp at e1; subst e1; exact absurd h0 n1
          | succ i => exact q3 i j gi gj (by omega) (by simpa using e1) (by simpa using e2) n1 n2
    · obtain ⟨q1, q2, q3⟩ := okNames_at h
      refine ⟨fun i g' e hne => ?_, by omega, fun i j gi gj hij e1 e2 n1 n2 => ?_⟩
      · cases i with
        | zero => simp at e; subst e; omega
        | succ i => have := q1 i g' (by simpa using e) hne; omega
      · cases j with
        | zero => omega
        | succ j =>
          cases i with
          | zero => simp at e1; subst e1; have := q1 j gj (by simpa using e2) n2; omega
          | succ i => exact q3 i j gi gj (by omega) (by simpa using e1) (by simpa using e2) n1 n2
theorem okNames_span {gs : List G} (h : okNames tot gs 0 = true) : (∀ (i j : Nat) (gi gj : G), i ≠ j → gs[i]? = some gi → gs[j]? = some gj → ∀ n b, span (n + gj.op.names.1) gj.op.names.2 b → ¬ span (n + gi.op.names.1) gi.op.names.2 b) := by
  obtain ⟨q1, q2, q3⟩ := okNames_at h
  intro i j gi gj hij e1 e2 n b s1 s2
  simp only [span] at s1 s2
  have n1 : gi.op.names.2 ≠ 0 := by omega
  have n2 : gj.op.names.2 ≠ 0 := by omega
  rcases Nat.lt_or_gt_of_ne hij with hlt | hgt
  · have := q3 i j gi gj hlt e1 e2 n1 n2; omega
  · have := q3 j i gj gi hgt e2 e1 n2 n1; omega
theorem okMasks_at {m : Nat → Nat} : ∀ {os : List Oper} {k : Nat}, okMasks m os k = true → ∀ (i : Nat) (o : Oper), os[i]? = some o → m (k + i) = bitPred m o ∧ ∀ e ∈ o.after, Region.binds .any e = true → e.on < k + i
  | [], k, _ => fun i o h => by simp at h
  | o :: os, k, h => by
    simp only [okMasks, Bool.and_eq_true, beq_iff_eq, List.all_eq_true, Bool.or_eq_true, Bool.not_eq_true', decide_eq_true_eq] at h
    intro i o' e
    cases i with
    | zero =>
      simp at e; subst e
      refine ⟨h.1.1, fun e he hb => ?_⟩
      rcases h.1.2 e (by simpa using he) with q | q
      · rw [hb] at q; cases q
      · exact q
    | succ i =>
      have := okMasks_at h.2 i o' (by simpa using e)
      rw [show k + (i + 1) = k + 1 + i by omega]
      exact this
theorem okAgainst_at {sep : List (Opd × Opd)} {mask : Nat} {g : G} : ∀ {gs : List G} {k : Nat}, okAgainst sep mask g gs k = true → ∀ (j : Nat) (gj : G), gs[j]? = some gj → mask.testBit (k + j) = false → pairOk sep gj g = true
  | [], k, _ => fun j gj h => by simp at h
  | g' :: gs, k, h => by
    simp only [okAgainst, Bool.and_eq_true, Bool.or_eq_true] at h
    intro j gj e hm
    cases j with
    | zero =>
      simp at e; subst e
      rcases h.1 with q | q
      · rw [Nat.add_zero] at hm; rw [hm] at q; cases q
      · exact q
    | succ j => exact okAgainst_at h.2 j gj (by simpa using e) (by rw [show k + 1 + j = k + (j + 1) by omega]; exact hm)
theorem okPairs_at {sep : List (Opd × Opd)} {m : Nat → Nat} : ∀ {gs pre : List G} {k : Nat}, pre.length = k → okPairs sep m pre gs k = true → ∀ (j i : Nat) (gj gi : G), j < k + i → gs[i]? = some gi → (pre ++ gs)[j]? = some gj → (m (k + i)).testBit j = false → pairOk sep gj gi = true
  | [], pre, k, _, _ => fun j i gj gi _ h => by simp at h
  | g :: gs, pre, k, hl, h => by
    simp only [okPairs, Bool.and_eq_true] at h
    intro j i gj gi hji e1 e2 hm
    cases i with
    | zero =>
      simp at e1; subst e1
      have hj : j < pre.length := by omega
      rw [List.getElem?_append_left hj] at e2
      exact okAgainst_at h.1 j gj e2 (by rw [Nat.zero_add]; simpa using hm)
    | succ i =>
      refine okPairs_at (pre := pre ++ [g]) (k := k + 1) (by simp [hl]) h.2 j i gj gi (by omega) (by simpa using e1) ?_ (by rw [show k + 1 + i = k + (i + 1) by omega]; exact hm)
      rw [List.append_assoc]; exact e2
theorem okStab_at : ∀ {gs : List G}, okStab gs = true → ∀ (i : Nat) (g : G), gs[i]? = some g → ∀ t, (.t t ∈ g.op.rdOpds ∨ .t t ∈ g.op.mdOpds) → ∀ (k : Nat) (g' : G), i ≤ k → gs[k]? = some g' → g'.op.dst ≠ some t
  | [], _ => fun i g h => by simp at h
  | g :: gs, h => by
    simp only [okStab, Bool.and_eq_true, List.all_eq_true] at h
    intro i g0 e t ht k g' hk e'
    cases i with
    | zero =>
      simp at e; subst e
      have hin : t ∈ opdSlots (g.op.rdOpds ++ g.op.mdOpds) := opdSlots_mem (by
        rcases ht with ht | ht
        · exact List.mem_append.2 (.inl ht)
        · exact List.mem_append.2 (.inr ht))
      have := h.1 t hin g' (List.mem_of_getElem? e')
      simpa using this
    | succ i =>
      cases k with
      | zero => omega
      | succ k => exact okStab_at h.2 i g0 (by simpa using e) t ht k g' (by omega) (by simpa using e')
theorem okReg_spec {sep : List (Opd × Opd)} {draw : Bool} {gs : List G} (h : okReg P N tot sep ops draw gs = true) :
    gs.length = ops.size ∧ (∀ (i : Nat) (o : Oper) (g : G), ops[i]? = some o → gs[i]? = some g → okG P N ops o g = true) ∧
    (∀ (i j : Nat) (gi gj : G), i ≠ j → gs[i]? = some gi → gs[j]? = some gj → ∀ n b, span (n + gj.op.names.1) gj.op.names.2 b → ¬ span (n + gi.op.names.1) gi.op.names.2 b) ∧
    (∀ (i : Nat) (g : G), gs[i]? = some g → g.op.names.2 ≠ 0 → g.op.names.1 + g.op.names.2 ≤ tot) ∧
    (draw = false → sep = []) ∧ (draw = true → ∃ masks, RegOk tot gs sep masks ∧ MaskOk ops masks) := by
  simp only [okReg, Bool.and_eq_true] at h
  obtain ⟨⟨h1, h2⟩, h3⟩ := h
  obtain ⟨g1, g2⟩ := okGl_at h1
  have hnames := okNames_span h2
  have hin : ∀ (i : Nat) (g : G), gs[i]? = some g → g.op.names.2 ≠ 0 → g.op.names.1 + g.op.names.2 ≤ tot := fun i g e hne => ((okNames_at h2).1 i g e hne).2
  refine ⟨by simpa using g1, fun i o g e1 e2 => g2 i o g (by simpa using e1) e2, hnames, hin, fun hd => ?_, fun hd => ?_⟩
  · subst hd
    simpa using h3
  · subst hd
    simp only [if_true, Bool.and_eq_true, Bool.or_eq_true, List.isEmpty_iff] at h3
    obtain ⟨⟨⟨c1, c2⟩, c3⟩, c4⟩ := h3
    refine ⟨maskFn (Region.before ops).toList, ⟨fun i g e => List.all_eq_true.1 c1 g (List.mem_of_getElem? e), hnames, hin, fun j i gj gi hji e1 e2 hm => ?_, fun hne => okStab_at (c4.resolve_left hne)⟩, ⟨fun i o e => ?_, fun i o e => ?_⟩⟩
    · exact okPairs_at (pre := []) (k := 0) rfl c3 j i gj gi (by omega) e2 (by simpa using e1) (by simpa using hm)
    · have := (okMasks_at c2 i o (by simpa using e)).1
      simpa using this
    · have := (okMasks_at c2 i o (by simpa using e)).2
      simpa using this
end Go.Vm

/-
  Code: what the abstract machine does is what the program does.
-/
set_option linter.unusedVariables false
set_option linter.unusedSimpArgs false
namespace Go.Vm
open Go.RowKit
variable {P : Program} {ρ ρ' ρ'' : Rho} {S S' S'' : Nat → Prop} {w w' w'' : World} {B N : Nat} {h : Hp} {E : Env} {tot base : Nat}
theorem Lo.shr {h h' : Hp} (l : Lo base h) (s : Shr base h h') : Lo base h' := fun b hb k e hx b' hb' => by
  obtain ⟨k0, e0, x0, n0⟩ := s b hb k e hx
  exact l b hb k0 e0 x0 b' (n0 b' hb')
def sameExit : Out → Exit → Prop
  | .norm _, .normal => True
  | .exit id _, .exit id' => id = id'
  | .ret _, .ret => True
  | _, _ => False
structure Post (P : Program) (base B N : Nat) (ρ : Rho) (S : Nat → Prop) (w : World) (out : Out) (e : Exit) (a' : Act) (w' : World) : Prop where
  ex : ∃ ρ' S', MvX base B ρ S w ρ' S' w' ∧ SW P ρ' S' B N out.st a' w' ∧ ∀ b, out.st.n ≤ b → ρ' b = none
  same : sameExit out e
theorem Post.before {out : Out} {e : Exit} {a' : Act} (m : MvX base B ρ S w ρ' S' w') (p : Post P base B N ρ' S' w' out e a' w'') : Post P base B N ρ S w out e a' w'' := by
  obtain ⟨ρ2, S2, M, T, f⟩ := p.ex
  exact ⟨⟨ρ2, S2, m.trans M, T, f⟩, p.same⟩
theorem rounds_mono {c : Code} {Q Q' : Exit → Act → World → Prop} (hq : ∀ e a w, Q e a w → Q' e a w) : ∀ (n : Nat) (a : Act) (w : World), Code.rounds P c Q n a w → Code.rounds P c Q' n a w
  | 0, a, w, h => h
  | n + 1, a, w, h => by
    rw [rounds_succ] at h ⊢
    refine wp_mono h (fun e a w q => ?_)
    cases e <;> first | exact rounds_mono hq n a w q | exact hq _ _ _ q
theorem SW.drew {σ : St} {a : Act} (T : SW P ρ S B N σ a w) (e : w'.heap = w.heap) : SW P ρ S B N σ a w' :=
  ⟨fun t => R.mono (fun _ _ h => h) (fun _ h => h) (Ext.of_heap e) (T.slot t), T.size, T.defers, T.heap.of_heap e, by rw [e]; exact T.le⟩
theorem reg_sound {N0 : List Nat} (hN : EnvKeep E N0) (hE : EnvOk P E) (hm : P.follows .mixedOrders = true) {id : Nat} {ops : Array Oper} {draw : Bool} {gs : List G} {sep : List (Opd × Opd)} (ok : okReg P N tot sep ops draw gs = true) {σ σf : St} {a : Act} (T : SW P ρ S B N σ a w) (f : ∀ b, σ.n ≤ b → ρ b = none) (hb : σ.base ≤ σ.n)
    (e : steps E tot gs σ = some σf) (hs : seps σf sep = true) (hkp : keepIn σf N0 sep = true) (hbase : σf.base = σ.base) : (Code.region id ops draw).wp P (Post P σ.base B N ρ S w (.norm { σf with n := σf.n + tot })) a w := by
  obtain ⟨g1, g2, g3, g4, g5, g6⟩ := okReg_spec ok
  have hQ : ∀ (w0 : World), MvX σ.base B ρ S w ρ S w0 → ∀ ρ' S' a' w', MvX σ.base B ρ S w0 ρ' S' w' → SW P ρ' S' B N σf a' w' → (∀ b, σf.n + tot ≤ b → ρ' b = none) → Post P σ.base B N ρ S w (.norm { σf with n := σf.n + tot }) .normal a' w' :=
    fun w0 m0 ρ' S' a' w' M T' f' => ⟨⟨ρ', S', m0.trans M, ⟨T'.slot, T'.size, T'.defers, T'.heap, T'.le⟩, f'⟩, trivial⟩
  have fr : ∀ is, Fr ρ tot σ.n gs is := fun is => ⟨fun i hi g hg b hb => f b (by simp only [span] at hb; omega), fun b hb => f b (by omega)⟩
  cases draw with
  | false =>
    refine wp_region ?_
    have hrange : List.range ops.size = List.range' 0 gs.length := by rw [g1, List.range_eq_range']
    rw [hrange]
    exact reg_ordered hE g1 g2 g3 g4 gs 0 ρ S σ a w rfl (by omega) T (fr _) hb e (hQ w MvX.refl)
  | true =>
    obtain ⟨masks, RO, MO⟩ := g6 rfl
    refine wp_region_any hm ?_
    have runs : ∀ (rest : List G) (k : Nat) (τ : St), gs.drop k = rest → steps E tot rest τ = some σf → Runs E tot gs (List.range' k rest.length) τ σf := by
      intro rest
      induction rest with
      | nil =>
        intro k τ _ e
        simp only [steps, Option.some.injEq] at e
        subst e
        exact .nil _
      | cons g rest ih =>
        intro k τ hd e
        obtain ⟨σ1, h1, e1⟩ := bnd_eq e
        have hgk : gs[k]? = some g := by
          have := congrArg (·[0]?) hd
          simpa [List.getElem?_drop] using this
        have hd' : gs.drop (k + 1) = rest := by
          have := congrArg List.tail hd
          simpa [List.tail_drop] using this
        rw [List.length_cons, List.range'_succ]
        exact .cons hgk (stepG_does h1) (ih (k + 1) σ1 hd' e1)
    refine reg_any (base := σ.base) hN hE g1 g2 RO MO hs hkp ops.size (Array.replicate ops.size false) (List.range' 0 gs.length) ρ S σ a _ (by simp) (List.pairwise_lt_range') (fun i => ?_) (fun i o ho hl => ?_) (by simp [g1]) (T.drew rfl) (fr _) hb (runs gs 0 σ rfl e) (hQ _ ⟨fun _ _ => rfl, fun _ h => h, Ext.of_heap rfl, ⟨rfl, rfl, rfl, Nat.le_refl _, fun _ _ => rfl⟩, fun _ h => .inl h⟩)
    · rw [List.mem_range'_1, g1]
      by_cases hi : i < ops.size <;> simp [Array.getD, hi]
    · have hi : i < ops.size := (Array.getElem?_eq_some_iff.1 ho).1
      simp [Array.getD, hi] at hl
theorem keepIn_no {σ : St} {N0 : List Nat} : ∀ {sep : List (Opd × Opd)}, noKeep sep = true → keepIn σ N0 sep = true
  | [], _ => rfl
  | p :: ps, h => by
    simp only [noKeep, List.all_cons, Bool.and_eq_true] at h
    have ih := keepIn_no (σ := σ) (N0 := N0) (sep := ps) h.2
    obtain ⟨p1, p2⟩ := p
    cases p1 with
    | k a => simpa [keepIn] using ih
    | t a => cases p2 with
      | t b => simpa [keepIn] using ih
      | k b => simp at h
theorem EnvKeep.none (hS : EnvShr E) : EnvKeep E [] := ⟨fun f as h n r e b hb => by simp at hb, fun f as h n r e => (hS f as h n r.1 r.2.1 r.2.2 e).2⟩
theorem chk_keep (hS : EnvShr E) (N0 : List Nat) : EnvKeep (chk E N0) N0 := ⟨fun f as h n r e => (chk_inv e).2, fun f as h n r e => (hS f as h n r.1 r.2.1 r.2.2 (chk_inv e).1).2⟩
theorem chk_ok (hE : EnvOk P E) (N0 : List Nat) : EnvOk P (chk E N0) :=
  ⟨hE.call, hE.enter, fun f ρ S w B as xs h n rs h' n' e => hE.dc f ρ S w B as xs h n rs h' n' (chk_inv e).1, fun f as h n r e => hE.dcEnter f as h n r (chk_inv e).1⟩
theorem loop_sound (hS : EnvShr E) {L : List Nat} {c : ACode} {x : Code} (body : ∀ (ρ : Rho) (S : Nat → Prop) (σ : St) (a : Act) (w : World) (out : Out), exec E c σ = some out → SW P ρ S B N σ a w → (∀ b, σ.n ≤ b → ρ b = none) → σ.base ≤ σ.n → Lo σ.base σ.h → x.wp P (Post P σ.base B N ρ S w out) a w) :
    ∀ (k : Nat) (ρ : Rho) (S : Nat → Prop) (σ : St) (a : Act) (w : World) (out : Out), loopN (exec E c) L k σ = some out → SW P ρ S B N σ a w → (∀ b, σ.n ≤ b → ρ b = none) → σ.base ≤ σ.n → Lo σ.base σ.h → Code.rounds P x (Post P σ.base B N ρ S w out) k a w
  | 0, ρ, S, σ, a, w, out, e, _, _, _, _ => by cases e
  | k + 1, ρ, S, σ, a, w, out, e, T, f, hb, lo => by
    rw [rounds_succ]
    rcases seqO_inv e with ⟨σ1, h1, e1⟩ | ⟨h1, hno⟩
    · have kx := exec_shr hS c σ _ hb h1
      simp only [Out.st] at kx
      refine wp_mono (body ρ S σ a w _ h1 T f hb lo) (fun ex a1 w1 p => ?_)
      obtain ⟨ρ1, S1, M1, T1, f1⟩ := p.ex
      have hsame := p.same
      cases ex <;> simp only [sameExit] at hsame
      simp only [Exit.then]
      obtain ⟨σ2, h2, e2⟩ := bnd_eq e1
      simp only [Out.st] at T1 f1
      obtain ⟨ρ2, T2, s2, f2, b2, n2⟩ := canon_sound T1 (by rw [kx.base]; exact lo.shr kx.shr) h2
      have hbase : σ2.base = σ.base := b2.trans kx.base
      have lo2 : Lo σ2.base σ2.h := by
        obtain ⟨c1, c2, c3⟩ := canon_shr h2
        rw [hbase]
        rw [kx.base] at c3
        exact (lo.shr kx.shr).shr c3
      have r := loop_sound hS body k ρ2 S1 σ2 a1 w1 out e2 T2 f2 (by rw [b2]; exact n2) lo2
      rw [hbase] at r
      have M2 : MvX σ.base B ρ S w ρ2 S1 w1 := M1.trans ⟨fun b hb => s2 b (by rw [kx.base]; exact hb), fun _ h => h, Ext.refl _ _, Below.refl _ _, fun _ h => .inl h⟩
      exact rounds_mono (fun ex a w q => q.before M2) k a1 w1 r
    · refine wp_mono (body ρ S σ a w _ h1 T f hb lo) (fun ex a1 w1 p => ?_)
      have hsame := p.same
      cases ex <;> first | exact p | skip
      cases out with
      | norm σ1 => exact absurd rfl (hno σ1)
      | _ => simp [sameExit] at hsame
theorem exec_sound (hE : EnvOk P E) (hS : EnvShr E) (hm : P.follows .mixedOrders = true) : ∀ (c : ACode) (x : Code), okCode P N c x = true → ∀ (ρ : Rho) (S : Nat → Prop) (σ : St) (a : Act) (w : World) (out : Out), exec E c σ = some out → SW P ρ S B N σ a w → (∀ b, σ.n ≤ b → ρ b = none) → σ.base ≤ σ.n → Lo σ.base σ.h →
    x.wp P (Post P σ.base B N ρ S w out) a w := by
  intro c
  induction c with
  | sk =>
    intro x ok ρ S σ a w out e T f hb lo
    cases x <;> simp only [okCode, Bool.false_eq_true] at ok
    simp only [exec, Option.some.injEq] at e
    subst e
    exact wp_skip ⟨⟨ρ, S, MvX.refl, T, f⟩, trivial⟩
  | rg tot dr gs =>
    intro x ok ρ S σ a w out e T f hb lo
    cases x <;> simp only [okCode, Bool.false_eq_true] at ok
    obtain ⟨σ1, h1, rfl⟩ := nrm_inv e
    exact reg_sound (EnvKeep.none hS) hE hm ok T f hb h1 rfl rfl (steps_shr hS hb h1).base
  | rgs tot sep gs =>
    intro x ok ρ S σ a w out e T f hb lo
    cases x <;> simp only [okCode, Bool.false_eq_true, Bool.and_eq_true] at ok
    obtain ⟨σ1, h1, rfl⟩ := nrm_inv e
    obtain ⟨σ2, h2, h3⟩ := bnd_eq h1
    cases hs : seps σ2 sep with
    | false => rw [hs] at h3; cases h3
    | true =>
      rw [hs] at h3
      simp only [cond_true, Option.some.injEq] at h3
      subst h3
      exact reg_sound (EnvKeep.none hS) hE hm ok.1 T f hb h2 hs (keepIn_no ok.2) (steps_shr hS hb h2).base
  | rgk tot sep keep gs =>
    intro x ok ρ S σ a w out e T f hb lo
    cases x <;> simp only [okCode, Bool.false_eq_true] at ok
    obtain ⟨σ1, h1, rfl⟩ := nrm_inv e
    obtain ⟨σ2, h2, h3⟩ := bnd_eq h1
    cases hs : seps σ2 sep && keepIn σ2 (keepNames σ keep) sep with
    | false => rw [hs] at h3; cases h3
    | true =>
      rw [hs] at h3
      simp only [Bool.and_eq_true] at hs
      simp only [cond_true, Option.some.injEq] at h3
      subst h3
      exact reg_sound (chk_keep hS _) (chk_ok hE _) hm ok T f hb h2 hs.1 hs.2 (steps_shr (chk_shr hS _) hb h2).base
  | sq c1 c2 ih1 ih2 =>
    intro x ok ρ S σ a w out e T f hb lo
    cases x <;> simp only [okCode, Bool.false_eq_true, Bool.and_eq_true] at ok
    refine wp_seq ?_
    rcases seqO_inv e with ⟨σ1, h1, e1⟩ | ⟨h1, hno⟩
    · have kx := exec_shr hS c1 σ _ hb h1
      simp only [Out.st] at kx
      refine wp_mono (ih1 _ ok.1 ρ S σ a w _ h1 T f hb lo) (fun ex a1 w1 p => ?_)
      obtain ⟨ρ1, S1, M1, T1, f1⟩ := p.ex
      have hsame := p.same
      cases ex <;> simp only [sameExit] at hsame
      simp only [Exit.then]
      have r := ih2 _ ok.2 ρ1 S1 σ1 a1 w1 out e1 T1 f1 kx.n (by rw [kx.base]; exact lo.shr kx.shr)
      rw [kx.base] at r
      exact wp_mono r (fun ex a w q => q.before M1)
    · refine wp_mono (ih1 _ ok.1 ρ S σ a w _ h1 T f hb lo) (fun ex a1 w1 p => ?_)
      have hsame := p.same
      cases ex <;> first | exact p | skip
      cases out with
      | norm σ1 => exact absurd rfl (hno σ1)
      | _ => simp [sameExit] at hsame
  | ite cnd c1 c2 ih1 ih2 =>
    intro x ok ρ S σ a w out e T f hb lo
    cases x <;> simp only [okCode, Bool.false_eq_true, Bool.and_eq_true] at ok
    obtain ⟨⟨o1, o2⟩, o3⟩ := ok
    obtain ⟨q, hq, e1⟩ := bnd_eq e
    have r := okOpd_R T.slot o1
    rw [isQ_inv hq] at r
    refine wp_cond (t := q) (R.v_inv r).1 ?_
    cases q with
    | true => exact ih1 _ o2 ρ S σ a w out e1 T f hb lo
    | false => exact ih2 _ o3 ρ S σ a w out e1 T f hb lo
  | bl id c ih =>
    intro x ok ρ S σ a w out e T f hb lo
    cases x <;> simp only [okCode, Bool.false_eq_true, Bool.and_eq_true, decide_eq_true_eq] at ok
    obtain ⟨rfl, ok⟩ := ok
    refine wp_block ?_
    simp only [exec] at e
    unfold blO at e
    split at e
    · rename_i id' σ1 h1
      refine wp_mono (ih _ ok ρ S σ a w _ h1 T f hb lo) (fun ex a1 w1 p => ?_)
      have hsame := p.same
      cases ex <;> simp only [sameExit] at hsame
      subst hsame
      simp only [Exit.inBlock]
      split at e
      · rename_i hid
        simp only [Option.some.injEq] at e
        subst e
        rw [if_pos hid]
        exact ⟨p.ex, trivial⟩
      · rename_i hid
        simp only [Option.some.injEq] at e
        subst e
        rw [if_neg hid]
        exact p
    · rename_i hno
      refine wp_mono (ih _ ok ρ S σ a w _ e T f hb lo) (fun ex a1 w1 p => ?_)
      have hsame := p.same
      cases ex <;> first | exact p | skip
      cases out with
      | exit id' σ1 => exact absurd e (hno id' σ1)
      | _ => simp [sameExit] at hsame
  | lp L c ih =>
    intro x ok ρ S σ a w out e T f hb lo
    cases x <;> simp only [okCode, Bool.false_eq_true] at ok
    obtain ⟨σ1, h1, e1⟩ := bnd_eq e
    obtain ⟨ρ2, T2, s2, f2, b2, n2⟩ := canon_sound T lo h1
    obtain ⟨c1, c2, c3⟩ := canon_shr h1
    have r := loop_sound hS (fun ρ S σ a w out => ih _ ok ρ S σ a w out) rounds ρ2 S σ1 a w out e1 T2 f2 (by rw [b2]; exact n2) (by rw [b2]; exact lo.shr c3)
    rw [b2] at r
    have M2 : MvX σ.base B ρ S w ρ2 S w := ⟨s2, fun _ h => h, Ext.refl _ _, Below.refl _ _, fun _ h => .inl h⟩
    exact wp_loop_rounds rounds (rounds_mono (fun ex a w q => q.before M2) _ a w r)
  | xt id =>
    intro x ok ρ S σ a w out e T f hb lo
    cases x <;> simp only [okCode, Bool.false_eq_true, decide_eq_true_eq] at ok
    subst ok
    simp only [exec, Option.some.injEq] at e
    subst e
    exact wp_exit ⟨⟨ρ, S, MvX.refl, T, f⟩, rfl⟩
  | rt =>
    intro x ok ρ S σ a w out e T f hb lo
    cases x <;> simp only [okCode, Bool.false_eq_true] at ok
    simp only [exec, Option.some.injEq] at e
    subst e
    exact wp_ret ⟨⟨ρ, S, MvX.refl, T, f⟩, trivial⟩
  | no why =>
    intro x ok ρ S σ a w out e T f hb lo
    cases e
end Go.Vm

/-
  Functions: what the abstract machine says of a function, calls of it do.
-/
set_option linter.unusedVariables false
set_option linter.unusedSimpArgs false
namespace Go.Vm
open Go.RowKit
variable {P : Program} {ρ ρ' ρ'' : Rho} {S S' S'' : Nat → Prop} {w w' w'' : World} {B N : Nat} {h : Hp} {E : Env} {tot base : Nat}
def okRes (P : Program) : List ResultVar → List RVar → Bool
  | [], [] => true
  | .tmp t :: xs, .t u :: ys => decide (t = u) && okRes P xs ys
  | .cell a t :: xs, .cell b n g :: ys => decide (a = b) && decide (n = P.cellsOf t) && decide (g = aggT P t) && hasT P t && okRes P xs ys
  | _, _ => false
def okFn (P : Program) (f : Nat) (fn : AFn) : Bool :=
  match P.funcs[f]? with
  | some F => (match F.body with
    | some c => okCode P F.ntmps fn.code c
    | none => false) && okRes P F.results.toList fn.res && (F.name != "runtime.NumGoroutine")
  | none => false
def resOf (tmps : Array Value) : ResultVar → Sem Value
  | .tmp t => pure (tmps.getD t undef)
  | .cell a t => do loadVar t (← asAddr (tmps.getD a undef))
theorem res_run (H : HR P ρ S w B h) {σ : St} (hσ : σ.h = h) {tmps : Array Value} (hs : ∀ t, R P ρ S w (σ.s t) (tmps.getD t undef)) : ∀ {rs : List ResultVar} {rv : List RVar} {as : List A}, okRes P rs rv = true → resVals σ rv = some as →
    ∃ vs, (rs.mapM (resOf tmps)).run P w = .ok vs w ∧ RL P ρ S w as vs
  | [], rv, as, ok, e => by
    cases rv with
    | nil => simp only [resVals, Option.some.injEq] at e; subst e; exact ⟨[], rfl, .nil⟩
    | cons r rv => simp [okRes] at ok
  | r :: rs, rv, as, ok, e => by
    cases rv with
    | nil => cases r <;> simp [okRes] at ok
    | cons v rv =>
      obtain ⟨x, hx, e1⟩ := bnd_eq e
      obtain ⟨xs, hxs, e2⟩ := bnd_eq e1
      simp only [Option.some.injEq] at e2
      subst e2
      have one : okRes P rs rv = true ∧ ∃ y, (resOf tmps r).run P w = .ok y w ∧ R P ρ S w x y := by
        cases r with
        | tmp t =>
          cases v with
          | t u =>
            simp only [okRes, Bool.and_eq_true, decide_eq_true_eq] at ok
            obtain ⟨rfl, ok⟩ := ok
            simp only [resVal, Option.some.injEq] at hx
            subst hx
            exact ⟨ok, _, rfl, hs t⟩
          | cell b n g => simp [okRes] at ok
        | cell a t =>
          cases v with
          | t u => simp [okRes] at ok
          | cell b n g =>
            simp only [okRes, Bool.and_eq_true, decide_eq_true_eq] at ok
            obtain ⟨⟨⟨⟨rfl, rfl⟩, rfl⟩, hT⟩, ok⟩ := ok
            obtain ⟨⟨row, j⟩, hrow, hx⟩ := bnd_eq hx
            subst hσ
            obtain ⟨k, o', hpe, hcell⟩ := rowAt_cells H hrow (hs a)
            obtain ⟨y, hy, hr⟩ := ld_sound hT hcell hx
            refine ⟨ok, y, ?_, hr⟩
            simp only [resOf, hpe, asAddr, Sem.run_bind]
            exact hy
      obtain ⟨ok', y, hy, hr⟩ := one
      obtain ⟨ys, hys, hrs⟩ := res_run H hσ hs ok' hxs
      refine ⟨y :: ys, ?_, .cons hr hrs⟩
      rw [List.mapM_cons]
      simp only [Sem.run_bind, hy, Result.andThen_ok, hys]
      rfl
theorem results_run (H : HR P ρ S w B h) {σ : St} (hσ : σ.h = h) {tmps : Array Value} (hs : ∀ t, R P ρ S w (σ.s t) (tmps.getD t undef)) {F : Func} {rv : List RVar} {as : List A} (ok : okRes P F.results.toList rv = true) (e : resVals σ rv = some as) :
    ∃ vs, (results F tmps).run P w = .ok (packV vs) w ∧ RL P ρ S w as vs := by
  obtain ⟨vs, h1, h2⟩ := res_run H hσ hs ok e
  refine ⟨vs, ?_, h2⟩
  have h0 : results F tmps = (F.results.mapM (resOf tmps) >>= fun vs => pure (if h : vs.size = 1 then vs[0] else .tuple vs)) := by
    unfold results
    congr 1
  rw [h0]
  rw [Array.mapM_eq_mapM_toList]
  simp only [Sem.run_bind]
  have : (Sem.run P (List.toArray <$> F.results.toList.mapM (resOf tmps)) w) = .ok vs.toArray w := by
    rw [map_eq_pure_bind, Sem.run_bind, h1]
    rfl
  rw [this]
  simp only [Result.andThen_ok]
  show Result.ok _ w = _
  congr 1
  match vs with
  | [] => rfl
  | [x] => rfl
  | x :: y :: vs => simp [packV]
theorem slots_R {as : List A} {xs : List Value} (r : RL P ρ S w as xs) (n : Nat) (t : Nat) : R P ρ S w (slots as t) ((xs.toArray ++ Array.replicate n undef).getD t undef) := by
  unfold slots
  rw [List.getD_eq_getElem?_getD, Array.getD_eq_getD_getElem?]
  by_cases ht : t < as.length
  · have h2 : t < xs.length := by rw [r.len]; exact ht
    rw [List.getElem?_eq_getElem ht, Array.getElem?_append_left (by simpa using h2)]
    simp only [Option.getD_some, List.getElem?_toArray, List.getElem?_eq_getElem h2]
    exact r.at_ t _ _ (List.getElem?_eq_getElem ht) (List.getElem?_eq_getElem h2)
  · rw [List.getElem?_eq_none (by omega)]
    have : ((xs.toArray ++ Array.replicate n undef)[t]?).getD undef = undef := by
      rw [Array.getElem?_append_right (by simp; have := r.len; omega)]
      simp only [Array.getElem?_replicate]
      split <;> rfl
    rw [this]
    exact .und
theorem Lo.of_HR {n : Nat} (H : HR P ρ S w B h) (f : ∀ b, n ≤ b → ρ b = none) : Lo n h := by
  intro b hb k hk hx b' hb'
  rcases H.at_ b k hk with ⟨k', sz, _, hB⟩ | ⟨_, hr, _⟩
  · obtain ⟨cs, _, _, hcell⟩ := hB.here
    rw [nmAnyRows_iff] at hb'
    obtain ⟨row, hrow, x, hx, hbx⟩ := hb'
    obtain ⟨i, hi⟩ := List.getElem?_of_mem hrow
    obtain ⟨j, hj⟩ := List.getElem?_of_mem hx
    obtain ⟨y, _, hr⟩ := hcell i row j x hi hj
    have hkn : ρ b' ≠ none := by
      have hcx := areCells_iff.1 (hB.rows i row hi).2 x hx
      cases x with
      | fn f caps => exact nmX_known hr b' (.inr hbx)
      | ref ty b0 off len cap ex => exact nmX_known hr b' (.inl (by simp [nmAny, nmIn] at hbx; simp [nmX, nmIn, hbx]))
      | ptr b0 i j => exact nmX_known hr b' (.inl (by simp [nmAny, nmIn] at hbx; simp [nmX, nmIn, hbx]))
      | agg cs => simp [isCell] at hcx
      | tup cs => simp [isCell] at hcx
      | _ => simp [nmAny, nmIn] at hbx
    rcases Nat.lt_or_ge b' n with h | h
    · exact h
    · exact absurd (f b' h) hkn
  · rw [hr] at hb'; simp [nmAnyRows] at hb'
theorem fn_sound (hE : EnvOk P E) (hS : EnvShr E) (hm : P.follows .mixedOrders = true) {f : Nat} {fn : AFn} (ok : okFn P f fn = true) {as : List A} {xs : List Value} {n : Nat} (r : RL P ρ S w as xs) (H : HR P ρ S w B h) (hB : B ≤ w.heap.size) (hf : ∀ b, n ≤ b → ρ b = none)
    {σ : St} (e : exec E fn.code ⟨slots as, h, n, n⟩ = some (.norm σ) ∨ exec E fn.code ⟨slots as, h, n, n⟩ = some (.ret σ)) {vs : List A} (hv : resVals σ fn.res = some vs) :
    Calls P f xs.toArray w fun
      | .returned v, w' => ∃ us, v = packV us ∧ ∃ ρ' S', MvX n B ρ S w ρ' S' w' ∧ HR P ρ' S' w' B σ.h ∧ RL P ρ' S' w' vs us ∧ ∀ b, σ.n ≤ b → ρ' b = none
      | _, _ => False := by
  unfold okFn at ok
  split at ok
  · rename_i F hF
    simp only [Bool.and_eq_true] at ok
    obtain ⟨⟨o1, o2⟩, o3⟩ := ok
    split at o1
    · rename_i c hc
      refine calls_of_wp hF hc ?_
      have T : SW P ρ S B F.ntmps ⟨slots as, h, n, n⟩ { tmps := xs.toArray ++ Array.replicate (F.ntmps - xs.toArray.size) undef, defers := [] } w :=
        ⟨fun t => slots_R r _ t, by simp; omega, rfl, H, hB⟩
      have go : ∀ out, exec E fn.code ⟨slots as, h, n, n⟩ = some out → out.st = σ → (∀ ex, sameExit out ex → ex = .normal ∨ ex = .ret) → c.wp P (bodyPost P F fun
          | .returned v, w' => ∃ us, v = packV us ∧ ∃ ρ' S', MvX n B ρ S w ρ' S' w' ∧ HR P ρ' S' w' B σ.h ∧ RL P ρ' S' w' vs us ∧ ∀ b, σ.n ≤ b → ρ' b = none
          | _, _ => False) { tmps := xs.toArray ++ Array.replicate (F.ntmps - xs.toArray.size) undef, defers := [] } w := by
        intro out ho hst hex
        refine wp_mono (exec_sound hE hS hm fn.code c o1 ρ S _ _ w out ho T hf (Nat.le_refl _) (Lo.of_HR H hf)) (fun ex a1 w1 p => ?_)
        obtain ⟨ρ1, S1, M1, T1, f1⟩ := p.ex
        rw [hst] at T1 f1
        obtain ⟨us, hrun, hus⟩ := results_run T1.heap rfl T1.slot (F := F) o2 hv
        rcases hex ex p.same with rfl | rfl
        · exact ⟨T1.defers, _, hrun, us, rfl, ρ1, S1, M1, T1.heap, hus, f1⟩
        · exact ⟨T1.defers, _, hrun, us, rfl, ρ1, S1, M1, T1.heap, hus, f1⟩
      rcases e with e | e
      · exact go _ e rfl (fun ex hx => by cases ex <;> simp [sameExit] at hx; exact .inl rfl)
      · exact go _ e rfl (fun ex hx => by cases ex <;> simp [sameExit] at hx; exact .inr rfl)
    · cases o1
  · cases ok
theorem okFn_enter {f : Nat} {fn : AFn} (ok : okFn P f fn = true) : Enter P f := by
  unfold okFn at ok
  split at ok
  · rename_i F hF
    simp only [Bool.and_eq_true] at ok
    obtain ⟨⟨o1, o2⟩, o3⟩ := ok
    split at o1
    · rename_i c hc
      refine ⟨F, hF, ?_, by rw [hc]; rfl⟩
      simpa using o3
    · cases o1
  · cases ok
structure ProgOk (P : Program) (p : Prog) : Prop where
  orders : P.follows .mixedOrders = true
  fn : ∀ f fn, p.fn f = some fn → okFn P f fn = true
  dn : ∀ f fn, p.dn f = some fn → okFn P f fn = true
  ext : ∀ f F, p.ext f = some F → CallsOk P F f ∧ Enter P f
  ins : ∀ f e, p.ins f = some e → DcOk P (insF e) f ∧ Enter P f
theorem HR.empty (hS : ∀ k, S k → k < w.heap.size) (hG : GlobOk P S w) : HR P noRho S w w.heap.size (fun _ => none) :=
  ⟨fun b blk e => (by cases e), fun b b' k sz sz' blk blk' e => (by cases e), hS, hG⟩
theorem ProgOk.dfn {p : Prog} (O : ProgOk P p) (f : Nat) (fn : AFn) (h : p.dfn f = some fn) : okFn P f fn = true := by
  unfold Prog.dfn at h
  split at h
  · rename_i fn' h'
    cases h
    exact O.dn f fn h'
  · exact O.fn f fn h
theorem den_ok {p : Prog} (O : ProgOk P p) : ∀ d, EnvOk P ⟨den p d, dcl p d⟩
  | 0 => ⟨fun f S w as rs xs e => (by cases e), fun f as rs e => (by cases e), fun f ρ S w B as xs h n rs h' n' e => (by cases e), fun f as h n r e => (by cases e)⟩
  | d + 1 => by
    have ih := den_ok O d
    refine ⟨fun f S w as rs xs e hS hG r => ?_, fun f as rs e => ?_, fun f ρ S w B as xs h n rs h' n' e H hB r hf => ?_, fun f as h n r e => ?_⟩
    · simp only [den] at e
      split at e
      · rename_i F hF
        exact (O.ext f F hF).1 S w as rs xs e hS hG r
      · split at e
        · cases e
        · rename_i fn hfn
          obtain ⟨σ, ho, hk⟩ := endO_inv e
          obtain ⟨vs, hvs, h1⟩ := bnd_eq hk
          refine (fn_sound ih (dcl_shr p d) O.orders (O.fn f fn hfn) r (HR.empty hS hG) (Nat.le_refl _) (fun b _ => rfl) ho hvs).mono (fun en w1 he => ?_)
          cases en with
          | returned v =>
            obtain ⟨us, rfl, ρ1, S1, M1, H1, r1, f1⟩ := he
            exact leave_sound rfl H1 r1 h1 M1.sub M1.back M1.below M1.ext
          | _ => exact he
    · simp only [den] at e
      split at e
      · rename_i F hF
        exact (O.ext f F hF).2
      · split at e
        · cases e
        · rename_i fn hfn
          exact okFn_enter (O.fn f fn hfn)
    · simp only [dcl] at e
      split at e
      · rename_i e1 he1
        exact (O.ins f e1 he1).1 ρ S w B as xs h n rs h' n' e H hB r hf
      · split at e
        · cases e
        · rename_i fn hfn
          obtain ⟨σ, ho, hk⟩ := endO_inv e
          obtain ⟨vs, hvs, h1⟩ := bnd_eq hk
          simp only [Option.some.injEq, Prod.mk.injEq] at h1
          obtain ⟨rfl, rfl, rfl⟩ := h1
          have kx : KeepsX ⟨slots as, h, n, n⟩ σ := by
            rcases ho with ho | ho
            · exact exec_shr (dcl_shr p d) _ _ _ (Nat.le_refl _) ho
            · exact exec_shr (dcl_shr p d) _ _ _ (Nat.le_refl _) ho
          refine (fn_sound ih (dcl_shr p d) O.orders (O.dfn f fn hfn) r H hB hf ho hvs).mono (fun en w1 he => ?_)
          cases en with
          | returned v =>
            obtain ⟨us, rfl, ρ1, S1, M1, H1, r1, f1⟩ := he
            refine ⟨by have := kx.base; have := kx.n; simp only at *; omega, ρ1, S1, ⟨fun b l hl => ?_, M1.sub, M1.ext, M1.below, fun b hb hn => ?_, M1.back⟩, H1, R.pack r1, f1⟩
            · rcases Nat.lt_or_ge b n with h | h
              · rw [M1.same b h]; exact hl
              · rw [hf b h] at hl; cases hl
            · rw [M1.same b (by omega)]; exact hb
          | _ => exact he
    · simp only [dcl] at e
      split at e
      · rename_i e1 he1
        exact (O.ins f e1 he1).2
      · split at e
        · cases e
        · rename_i fn hfn
          exact okFn_enter (O.dfn f fn hfn)
theorem den_calls {p : Prog} (O : ProgOk P p) {d f : Nat} {as rs : List A} {xs : List Value} {w : World} (e : den p d f as = some rs) (hS : ∀ k, S k → k < w.heap.size) (hG : GlobOk P S w) (r : RL P noRho S w as xs) :
    Calls P f xs.toArray w fun | .returned v, w' => Res P S w rs v w' | _, _ => False := (den_ok O d).call f S w as rs xs e hS hG r
end Go.Vm

/-
  The frame of a law: its arguments as values of the abstract machine; its statement out of what the machine says.
-/
set_option linter.unusedVariables false
set_option linter.unusedSimpArgs false
namespace Go.Vm
open Go.RowKit Go.ChangeShapes Go.WideShapes
variable {P : Program}
abbrev oldS (W : World) : Nat → Prop := fun k => k < W.heap.size
structure Rdr {α : Type} (P : Program) (t : TypeId) (enc : α → List A) (ok : α → Prop) : Prop where
  rd : ∀ {H : Type} (e : TypeId × Value → H) (W : World) (fuel : Nat) (cs : List Value) (x : DataW H × List MemPlace), DataW.trod e P W 0 (fun _ => true) true fuel t cs = some x → ∃ y : α, ok y ∧ RL P noRho (oldS W) W (enc y) cs
  len : ∀ y, (enc y).length = P.cellsOf t
  cell : ∀ y, areCells (enc y) = true
theorem Rdr.int {t : TypeId} {k : IntKind} (ht : P.underlying t = some (.int k)) (h1 : P.cellsOf t = 1) : Rdr P t (fun n : Int => [.v (.int k n)]) (fun n => k.min ≤ n ∧ n ≤ k.max) :=
  ⟨fun e W fuel cs x h => by
    obtain ⟨n, rfl, _, hw⟩ := DataW.trod_int ht h
    simp only [Lit.wf, Bool.and_eq_true, decide_eq_true_eq] at hw
    exact ⟨n, hw, .cons (.v _ rfl) .nil⟩, fun _ => h1.symm, fun _ => rfl⟩
theorem Rdr.bool {t : TypeId} (ht : P.underlying t = some .bool) (h1 : P.cellsOf t = 1) : Rdr P t (fun b : Bool => [.v (.bool b)]) (fun _ => True) :=
  ⟨fun e W fuel cs x h => by
    obtain ⟨b, rfl, _⟩ := DataW.trod_bool ht h
    exact ⟨b, trivial, .cons (.v _ rfl) .nil⟩, fun _ => h1.symm, fun _ => rfl⟩
theorem Rdr.str {t : TypeId} (ht : P.underlying t = some .string) (h1 : P.cellsOf t = 1) : Rdr P t (fun s : ByteArray => [.v (.string s)]) (fun s => s.size ≤ maxLen) :=
  ⟨fun e W fuel cs x h => by
    obtain ⟨s, rfl, _, hs⟩ := DataW.trod_string ht h
    exact ⟨s, hs, .cons (.v _ rfl) .nil⟩, fun _ => h1.symm, fun _ => rfl⟩
theorem mapM_cells {w : World} {a : Addr} : ∀ (n : Nat) {cs : List Value}, w.cells? 0 a n = some cs → cs.length = n ∧ ∀ j, j < n → w.cell? (a.add j) = cs[j]? := by
  intro n cs h
  unfold World.cells? at h
  rw [if_pos (Nat.zero_le _)] at h
  have gen : ∀ (l : List Nat) (cs : List Value), l.mapM (fun i => w.cell? (a.add i)) = some cs → cs.length = l.length ∧ ∀ j, j < l.length → w.cell? (a.add (l.getD j 0)) = cs[j]? := by
    intro l
    induction l with
    | nil => intro cs h; simp at h; subst h; exact ⟨rfl, fun j hj => by simp at hj⟩
    | cons i l ih =>
      intro cs h
      rw [List.mapM_cons] at h
      cases hv : w.cell? (a.add i) with
      | none => rw [hv] at h; cases h
      | some v =>
        rw [hv] at h
        cases hvs : l.mapM (fun i => w.cell? (a.add i)) with
        | none => simp [hvs] at h
        | some vs =>
          simp [hvs] at h
          subst h
          obtain ⟨q1, q2⟩ := ih vs hvs
          refine ⟨by simp [q1], fun j hj => ?_⟩
          cases j with
          | zero => simpa using hv
          | succ j => simpa using q2 j (by simpa using hj)
  obtain ⟨q1, q2⟩ := gen _ _ h
  refine ⟨by simpa using q1, fun j hj => ?_⟩
  have := q2 j (by simpa using hj)
  simpa [List.getD_eq_getElem?_getD, List.getElem?_range hj] using this
theorem choose_list {α : Type} {Q : Nat → α → Prop} : ∀ (n : Nat), (∀ i, i < n → ∃ x, Q i x) → ∃ xs : List α, xs.length = n ∧ ∀ i x, xs[i]? = some x → Q i x
  | 0, _ => ⟨[], rfl, fun i x h => by simp at h⟩
  | n + 1, h => by
    obtain ⟨xs, h1, h2⟩ := choose_list n (fun i hi => h i (by omega))
    obtain ⟨x, hx⟩ := h n (by omega)
    refine ⟨xs ++ [x], by simp [h1], fun i y hy => ?_⟩
    by_cases hi : i < xs.length
    · rw [List.getElem?_append_left hi] at hy; exact h2 i y hy
    · rw [List.getElem?_append_right (by omega)] at hy
      have : i - xs.length = 0 := by
        rcases Nat.eq_zero_or_pos (i - xs.length) with q | q
        · exact q
        · rw [List.getElem?_eq_none (by simp; omega)] at hy; cases hy
      rw [this] at hy
      simp at hy
      subst hy
      have : i = n := by omega
      subst this
      exact hx
theorem Rdr.slice {α : Type} {t e : TypeId} {enc : α → List A} {ok : α → Prop} (ht : P.underlying t = some (.slice e)) (h1 : P.cellsOf t = 1) (hpos : 0 < P.cellsOf e) (r : Rdr P e enc ok) : Rdr P t (fun xs : List α => [.lit e (xs.map enc)]) (fun xs => xs.length ≤ maxLen ∧ ∀ x ∈ xs, ok x) := by
  refine ⟨fun en W fuel cs x h => ?_, fun _ => h1.symm, fun _ => rfl⟩
  rcases DataW.trod_slice ht h with ⟨rfl, _⟩ | ⟨a, len, cap, elems, rest, n, _, rfl, _, _, hlc, hcap, hel, hget, _⟩
  · refine ⟨[], ⟨by simp, fun x hx => by simp at hx⟩, .cons ?_ .nil⟩
    exact .lit e [] none 0 (fun _ _ => undef) (Nat.le_refl _) (fun i row h => by simp at h) (fun i row j x h => by simp at h) (fun i row j x h => by simp at h)
  · -- an element
    have one : ∀ i, i < len → ∃ y : α, ok y ∧ ∃ cs', RL P noRho (oldS W) W (enc y) cs' ∧ cs'.length = P.cellsOf e ∧ ∀ j, j < P.cellsOf e → W.cell? ((a.add (i * P.cellsOf e)).add j) = cs'[j]? := by
      intro i hi
      have hg := hget i hi
      cases hc : W.cells? 0 (a.add (i * P.cellsOf e)) (P.cellsOf e) with
      | none =>
        rw [hc] at hg
        simp only [Option.bind_none] at hg
        rw [List.getElem?_eq_getElem (by omega)] at hg
        cases hg
      | some cs' =>
        rw [hc] at hg
        simp only [Option.bind_some] at hg
        obtain ⟨q1, q2⟩ := mapM_cells _ hc
        rw [List.getElem?_eq_getElem (by omega)] at hg
        obtain ⟨y, hy, hr⟩ := r.rd en W n cs' _ hg
        exact ⟨y, hy, cs', hr, q1, q2⟩
    obtain ⟨ys, hl, hys⟩ := choose_list len one
    have hspot : 0 < len → a.spot = none := fun hlen => by
      obtain ⟨y, _, cs', _, q1, q2⟩ := one 0 hlen
      have := q2 0 hpos
      rw [List.getElem?_eq_getElem (by omega)] at this
      simp only [Nat.zero_mul, Addr.add, if_true] at this
      unfold World.cell? at this
      split at this
      · split at this
        · cases this
        · rename_i hs; simpa using hs
      · cases this
    refine ⟨ys, ⟨by omega, fun y hy => ?_⟩, .cons ?_ .nil⟩
    · obtain ⟨i, hi⟩ := List.getElem?_of_mem hy
      exact (hys i y hi).1
    · have hrows : ∀ (i : Nat) (row : List A), (ys.map enc)[i]? = some row → i < len ∧ ∃ y, ys[i]? = some y ∧ row = enc y := by
        intro i row h
        simp only [List.getElem?_map, Option.map_eq_some_iff] at h
        obtain ⟨y, hy, rfl⟩ := h
        exact ⟨by have := (List.getElem?_eq_some_iff.1 hy).1; omega, y, hy, rfl⟩
      have haddr : ∀ i j, a.spot = none → (a.add (i * P.cellsOf e)).add j = ⟨a.block, a.off + i * P.cellsOf e + j, none⟩ := by
        intro i j hs
        obtain ⟨b, o, s⟩ := a
        simp only at hs
        subst hs
        rw [add_none, add_none]
      have cellAt : ∀ (i : Nat) (row : List A) (j : Nat) (x : A), (ys.map enc)[i]? = some row → row[j]? = some x → ∃ v, W.cell? ⟨a.block, a.off + i * P.cellsOf e + j, none⟩ = some v ∧ R P noRho (oldS W) W x v := by
        intro i row j x h1 h2
        obtain ⟨hi, y, hy, rfl⟩ := hrows i row h1
        obtain ⟨_, cs', hr, q1, q2⟩ := hys i y hy
        have hj : j < P.cellsOf e := by rw [← r.len y]; exact (List.getElem?_eq_some_iff.1 h2).1
        have := q2 j hj
        rw [List.getElem?_eq_getElem (by omega), haddr i j (hspot (by omega))] at this
        exact ⟨_, this, hr.at_ j x _ h2 (List.getElem?_eq_getElem (by omega))⟩
      suffices hh : R P noRho (oldS W) W (.lit e (ys.map enc)) (.slice (some a) (ys.map enc).length cap) by
        simp only [List.length_map, hl] at hh
        exact hh
      refine .lit e (ys.map enc) (some a) cap (fun i j => (W.cell? ⟨a.block, a.off + i * P.cellsOf e + j, none⟩).getD undef) (by simp [hl]; exact hlc) (fun i row h => ?_) (fun i row j x h1 h2 => ?_) (fun i row j x h1 h2 => ?_)
      · obtain ⟨_, y, _, rfl⟩ := hrows i row h
        exact ⟨r.len y, r.cell y⟩
      · obtain ⟨v, hv, _⟩ := cellAt i row j x h1 h2
        obtain ⟨hi, _⟩ := hrows i row h1
        have hs := hspot (by omega)
        refine ⟨a.block, a.off, by obtain ⟨b, o, s⟩ := a; simp only at hs; subst hs; rfl, ?_, by rw [hv]; rfl⟩
        show a.block < W.heap.size
        unfold World.cell? at hv
        cases hb : W.heap[a.block]? with
        | none => simp only [hb] at hv; cases hv
        | some o => exact (Array.getElem?_eq_some_iff.1 hb).1
      · obtain ⟨v, hv, hr⟩ := cellAt i row j x h1 h2
        rw [hv]
        exact hr
inductive RdF (P : Program) : List Field → Nat → (α : Type) → (α → List A) → (α → Prop) → Prop
  | nil {n : Nat} : RdF P [] n Unit (fun _ => []) (fun _ => True)
  | cons {f : Field} {fs : List Field} {n : Nat} {α β : Type} {enc : α → List A} {ok : α → Prop} {enc' : β → List A} {ok' : β → Prop} (ho : f.offset = n) (r : Rdr P f.type enc ok) (rs : RdF P fs (n + P.cellsOf f.type) β enc' ok') :
    RdF P (f :: fs) n (α × β) (fun x => enc x.1 ++ enc' x.2) (fun x => ok x.1 ∧ ok' x.2)
theorem RdF.all {fs : List Field} {n : Nat} {α : Type} {enc : α → List A} {ok : α → Prop} (r : RdF P fs n α enc ok) : (∀ y, areCells (enc y) = true) ∧ (∃ m, ∀ y, (enc y).length = m) ∧
    ∀ {H : Type} (e : TypeId × Value → H) (W : World) (fuel : Nat) (cs : List Value), (∀ f ∈ fs, ∃ x, DataW.trod e P W 0 (fun _ => true) true fuel f.type ((cs.drop f.offset).take (P.cellsOf f.type)) = some x) → ∃ y : α, ok y ∧ RL P noRho (oldS W) W (enc y) ((cs.drop n).take (enc y).length) := by
  induction r with
  | nil => exact ⟨fun _ => rfl, ⟨0, fun _ => rfl⟩, fun e W fuel cs _ => ⟨(), trivial, by simp only [List.length_nil, List.take_zero]; exact .nil⟩⟩
  | @cons f fs n α β enc ok enc' ok' ho r rs ih =>
    obtain ⟨i1, ⟨m, i2⟩, i3⟩ := ih
    refine ⟨fun y => ?_, ⟨P.cellsOf f.type + m, fun y => by simp [r.len, i2]⟩, fun e W fuel cs h => ?_⟩
    · rw [areCells_iff]
      intro x hx
      rcases List.mem_append.1 hx with hx | hx
      · exact areCells_iff.1 (r.cell _) x hx
      · exact areCells_iff.1 (i1 _) x hx
    · obtain ⟨x, hx⟩ := h f (by simp)
      obtain ⟨y, hy, hr⟩ := r.rd e W fuel _ x hx
      obtain ⟨z, hz, hr'⟩ := i3 e W fuel cs (fun g hg => h g (by simp [hg]))
      refine ⟨(y, z), ⟨hy, hz⟩, ?_⟩
      have hl : ((cs.drop n).take (enc y ++ enc' z).length) = (cs.drop n).take (P.cellsOf f.type) ++ (cs.drop (n + P.cellsOf f.type)).take (enc' z).length := by
        rw [List.length_append, r.len, List.take_add, List.drop_drop]
      rw [hl]
      rw [ho] at hr
      exact hr.append hr'
theorem Rdr.struct {t : TypeId} {fs : Array Field} {α : Type} {enc : α → List A} {ok : α → Prop} (ht : P.underlying t = some (.struct fs)) (r : RdF P fs.toList 0 α enc ok) (hl : ∀ y, (enc y).length = P.cellsOf t) : Rdr P t enc ok := by
  obtain ⟨i1, _, i3⟩ := r.all
  refine ⟨fun e W fuel cs x h => ?_, hl, i1⟩
  obtain ⟨xs, n, _, _, hcl, hxl, hget⟩ := DataW.trod_struct ht h
  obtain ⟨y, hy, hr⟩ := i3 e W n cs (fun f hf => by
    obtain ⟨i, hi⟩ := List.getElem?_of_mem hf
    have hi' : fs[i]? = some f := by simpa using hi
    have := hget i f hi'
    have hlt : i < fs.size := (Array.getElem?_eq_some_iff.1 hi').1
    rw [List.getElem?_eq_getElem (by omega)] at this
    exact ⟨_, this⟩)
  refine ⟨y, hy, ?_⟩
  rw [hl, ← hcl] at hr
  simpa using hr
theorem Rdr.iso {α β : Type} {t : TypeId} {enc : α → List A} {ok : α → Prop} {enc' : β → List A} {ok' : β → Prop} (r : Rdr P t enc ok) (f : α → β) (h1 : ∀ x, enc' (f x) = enc x) (h2 : ∀ x, ok x → ok' (f x)) (h3 : ∀ y, (enc' y).length = P.cellsOf t) (h4 : ∀ y, areCells (enc' y) = true) : Rdr P t enc' ok' :=
  ⟨fun e W fuel cs x h => by
    obtain ⟨y, hy, hr⟩ := r.rd e W fuel cs x h
    exact ⟨f y, h2 y hy, by rw [h1]; exact hr⟩, h3, h4⟩
section
variable {H : Type} {e : TypeId × Value → H} {W : World} {base : Nat} {t : TypeId} {v : Value} {d : DataW H} {ps : List MemPlace}
theorem arg_struct {fs : Array Field} {α : Type} {enc : α → List A} {ok : α → Prop} (ht : P.underlying t = some (.struct fs)) (r : Rdr P t enc ok) (hv : Value.okWide P W .any base t v) (h : DataW.Trod e P W 0 (fun _ => true) true t v d ps) :
    ∃ y : α, ok y ∧ R P noRho (oldS W) W (.agg (enc y)) v := by
  obtain ⟨cs, rfl, _⟩ := okWide_struct ht hv
  obtain ⟨fuel, hf⟩ := h
  obtain ⟨y, hy, hr⟩ := r.rd e W fuel _ _ hf
  refine ⟨y, hy, ?_⟩
  have := R.agg (P := P) (ρ := noRho) (S := oldS W) (w := W) (enc y) cs.toList hr.len hr.at_
  simpa using this
theorem arg_slice {el : TypeId} {α : Type} {enc : α → List A} {ok : α → Prop} (ht : P.underlying t = some (.slice el)) (h1 : P.cellsOf t = 1) (hpos : 0 < P.cellsOf el) (r : Rdr P el enc ok) (hv : Value.okWide P W .any base t v) (h : DataW.Trod e P W 0 (fun _ => true) true t v d ps) :
    ∃ xs : List α, (xs.length ≤ maxLen ∧ ∀ x ∈ xs, ok x) ∧ R P noRho (oldS W) W (.lit el (xs.map enc)) v := by
  obtain ⟨a, len, cap, rfl⟩ := okWide_slice ht hv
  obtain ⟨fuel, hf⟩ := h
  obtain ⟨y, hy, hr⟩ := (Rdr.slice ht h1 hpos r).rd e W fuel _ _ hf
  exact ⟨y, hy, hr.at_ 0 _ _ rfl rfl⟩
end
theorem trodAll_stays {H : Type} {e : TypeId × Value → H} {W W' : World} (hl : laidOutB P = true) (hb : Below W.heap.size W W') : ∀ {ts : List TypeId} {vs : List Value} {ds : List (DataW H)} {ps : List MemPlace}, (∀ t ∈ ts, P.readableRec t = true ∧ t < P.types.size) → DataW.TrodAll e P W 0 (fun _ => true) true ts vs ds ps →
    (∀ x ∈ ps, x.block < W.heap.size) → ∀ sp : Nat → Bool, (∀ p ∈ ps, sp p.block = true) → DataW.TrodAll e P W' 0 sp true ts vs ds ps
  | [], vs, ds, ps, _, h, _, sp, _ => by
    obtain ⟨rfl, rfl, rfl⟩ := trodAll_nil h
    exact h
  | t :: ts, vs, ds, ps, hr, h, hlt, sp, hsp => by
    obtain ⟨v, vs', d, ds', p, q, rfl, rfl, rfl, h1, h2⟩ := trodAll_cons h
    refine ⟨p, q, ?_, trodAll_stays hl hb (fun u hu => hr u (by simp [hu])) h2 (fun x hx => hlt x (by simp [hx])) sp (fun x hx => hsp x (by simp [hx])), rfl⟩
    exact WideElems.Trod_stays hl (hr t (by simp)).1 (hr t (by simp)).2 h1 (fun x hx => hb.same (hlt x (by simp [hx]))) (fun x hx => hsp x (by simp [hx]))
theorem trodAll_len {H : Type} {e : TypeId × Value → H} {W : World} {sp : Nat → Bool} {hd : Bool} : ∀ {ts : List TypeId} {vs : List Value} {ds : List (DataW H)} {ps : List MemPlace}, DataW.TrodAll e P W 0 sp hd ts vs ds ps → ds.length = ts.length
  | [], vs, ds, ps, h => by obtain ⟨rfl, rfl, rfl⟩ := trodAll_nil h; rfl
  | t :: ts, vs, ds, ps, h => by
    obtain ⟨v, vs', d, ds', p, q, rfl, rfl, rfl, h1, h2⟩ := trodAll_cons h
    simp [trodAll_len h2]
theorem GlobOk.nothing {S : Nat → Prop} {w : World} (h : gNames.all (fun nm => (P.globalNamed nm).isNone) = true) : GlobOk P S w := by
  rw [List.all_eq_true] at h
  have hn : ∀ nm ∈ gNames, P.globalNamed nm = none := fun nm hm => by simpa using h nm hm
  refine ⟨fun nm hm g hg => ?_, fun q => ?_, fun q => ?_, fun q => ?_⟩
  · rw [hn nm hm] at hg; cases hg
  · rw [hn _ (by simp [gNames])] at q; cases q
  · rw [hn _ (by simp [gNames])] at q; cases q
  · rw [hn _ (by simp [gNames])] at q; cases q
theorem law_contract {H : Type} {enc : TypeId × Value → H} {p : Prog} (O : ProgOk P p) {f D : Nat} {F : Func} {s : ChangeSpec} {tb : TypeId} (hl : laidOutB P = true) (hparams : ∀ t ∈ F.params.toList, P.readableRec t = true ∧ t < P.types.size)
    (hvars : s.vars = []) (hres : F.resultTypes = #[tb]) (htb : P.underlying tb = some .bool)
    (hfn : ∀ ds : List (DataW H), ds.length = F.params.size → (s.fn H ds).results = [.lit (.bool true)] ∧ (s.fn H ds).args = ds ∧ (s.fn H ds).vars = [])
    {W : World} {args : Array Value} {ds gs : List (DataW H)} {before : List MemPlace} (hW : DataW.Whole enc P F.params.toList s.vars false W args.toList ds gs before)
    (hG : GlobOk P (oldS W) W)
    (hden : ∀ q, DataW.TrodAll enc P W 0 (fun _ => true) true F.params.toList args.toList ds q → ∃ as, RL P noRho (oldS W) W as args.toList ∧ den p D f as = some [.v (.bool true)]) :
    Calls P f args W fun e W' => ∃ v, e = .returned v ∧ s.post enc P F false true false false W args v W' := by
  have hW' := hW
  obtain ⟨q, q', hA, hV, rfl, hfz, hnd⟩ := hW
  rw [hvars] at hV
  obtain ⟨rfl, rfl⟩ := trodVars_none hV
  obtain ⟨as, hr, hd⟩ := hden q hA
  have hcalls := den_calls O hd (S := oldS W) (fun k hk => hk) hG hr
  have hargs : args.toList.toArray = args := by simp
  rw [hargs] at hcalls
  refine hcalls.mono fun en W1 he => ?_
  cases en with
  | returned v =>
    refine ⟨v, rfl, ?_⟩
    obtain ⟨S', _, _, hbelow, hext, hall⟩ := he
    obtain ⟨ρr, _, _, hv⟩ := hall 0
    have hv' : v = .bool true := (R.v_inv hv).1
    subst hv'
    have hlen := trodAll_len hA
    obtain ⟨f1, f2, f3⟩ := hfn ds (by simpa using hlen)
    have hlt : ∀ x ∈ q, x.block < W.heap.size := fun x hx => by simpa using hW'.lt x (by simpa using hx)
    have hold : ∀ p ∈ q ++ [], (fun b => decide (b < W.heap.size)) p.block = true := fun p hp => by simpa using hlt p (by simpa using hp)
    refine ⟨_, _, _, [], q, [], hW', ?_, ?_, ?_, World.keptBut_mono (fun p hp => ⟨hp, ?_⟩) (hbelow.frame _), fun h => by cases h⟩
    · rw [List.append_nil, f1, hres]
      exact trodAll_mk1 (shut_bool htb true)
    · rw [List.append_nil, f2]
      exact trodAll_stays hl hbelow hparams hA hlt _ (fun x hx => hold x (by simpa using hx))
    · rw [List.append_nil, f3, hvars]
      rfl
    · simpa using hp
  | _ => exact he.elim
end Go.Vm
end
