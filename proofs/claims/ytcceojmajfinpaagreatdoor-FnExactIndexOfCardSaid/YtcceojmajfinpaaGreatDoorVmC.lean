/-
  Drawn regions, code and programs of the abstract machine, held against the model
-/
import Derived.Test.YtcceojmajfinpaaGreatDoorVmB
import Derived.LoopN
import Derived.ProofKit
section
set_option linter.unusedVariables false
set_option linter.unusedSectionVars false
set_option linter.unusedSimpArgs false
set_option linter.unusedVariables false
set_option linter.unusedSimpArgs false
namespace Go.Vm
open Go.RowKit
def AOp.opds : AOp → List Opd
 | .mv _ x => [x] | .pick _ c a b => [c, a, b] | .box _ _ _ _ x => [x] | .bld _ _ _ ps => ps.map (·.2.2) | .bsl _ _ _ _ xs => xs | .ld _ _ _ p => [p] | .st _ p x => [p, x] | .stn _ _ p => [p]
 | .nl _ x => [x] | .bin _ _ x y => [x, y] | .eqs _ _ _ x y => [x, y] | .beq _ _ x y => [x, y] | .un _ _ x => [x] | .cv _ _ x => [x] | .cbs _ _ x => [x] | .mkf _ _ xs => xs
 | .mks _ _ _ _ l c => [l, c] | .sl _ _ x a b c => x :: (a.toList ++ b.toList ++ c.toList) | .fa _ x _ => [x] | .fld _ x _ _ _ => [x] | .ex _ x _ => [x] | .ia _ _ x i => [x, i] | .ix _ x i => [x, i]
 | .call _ _ _ _ xs => xs | .callv _ _ _ f xs => f :: xs | .dcall _ _ xs => xs | .dcf _ _ xs => xs | .mkb _ _ _ _ l c => [l, c] | .bsb _ _ _ _ xs => xs | .apb _ _ _ s x => [s, x] | .callx _ _ _ _ xs => xs | .dcs _ _ xs => xs | .bll _ _ _ xs => xs | .dcallv _ f xs => f :: xs | .len _ _ x => [x] | .app _ _ _ s x => [s, x] | .clr _ _ x => [x] | .mnx _ _ x y => [x, y]
 | _ => []
def Same (x y : Option Blk) : Prop := ∃ k k', x = some k ∧ y = some k' ∧ k'.ty = k.ty ∧ k'.rows = k.rows ∧ k'.box = k.box
theorem Same.refl {x : Option Blk} (h : x ≠ none) : Same x x := by
 cases x with
 | none => exact absurd rfl h
 | some k => exact ⟨k, k, rfl, rfl, rfl, rfl, rfl⟩
theorem Same.symm {x y : Option Blk} (h : Same x y) : Same y x := by
 obtain ⟨k, k', rfl, rfl, a, b, c⟩ := h
 exact ⟨k', k, rfl, rfl, a.symm, b.symm, c.symm⟩
theorem Same.trans {x y z : Option Blk} (h : Same x y) (g : Same y z) : Same x z := by
 obtain ⟨k, k', rfl, rfl, a, b, c⟩ := h
 obtain ⟨l, l', e, rfl, a', b', c'⟩ := g
 cases e
 exact ⟨k, l', rfl, rfl, a'.trans a, b'.trans b, c'.trans c⟩
def frz1 (x : Option Blk) : Option Blk := x.map fun k => { k with own := false }
theorem Zl1 {x : Option Blk} (h : x ≠ none) : Same x (frz1 x) := by
 cases x with
 | none => exact absurd rfl h
 | some k => exact ⟨k, _, rfl, rfl, rfl, rfl, rfl⟩
theorem Z3l (bs : List Nat) (h : Hp) (b : Nat) : frz h bs b = if b ∈ bs then frz1 (h b) else h b := by
 rw [Zac]
 cases h b with
 | none => simp [frz1]
 | some k => by_cases hb : b ∈ bs <;> simp [hb, frz1]
variable {h h' : Hp}
theorem Zpv {a : A} {r : List A × Nat} (e : Z7u h a = some r) (hs : ∀ b ∈ nmIn a, Same (h b) (h' b)) : Z7u h' a = some r ∧ ∀ b ∈ nmIn a, h b ≠ none := by
 cases a with
 | pl row j => exact ⟨e, fun b hb => by simp [nmIn] at hb⟩
 | ptr b i j =>
   obtain ⟨k, hk, e1⟩ := Z3 e
   obtain ⟨k1, k2, e2, e3, _, e4, _⟩ := hs b (by simp [nmIn])
   rw [hk] at e2; cases e2
   refine ⟨?_, fun b' hb => by simp [nmIn] at hb; subst hb; rw [hk]; simp⟩
   simp only [Z7u, e3, bnd, e4]
   exact e1
 | _ => simp [Z7u] at e
theorem Z42 {t : Nat} {a : A} {r : List (List A)} (e : Z0r t h a = some r) (hs : ∀ b ∈ nmIn a, Same (h b) (h' b)) : Z0r t h' a = some r ∧ ∀ b ∈ nmIn a, h b ≠ none := by
 cases a with
 | lit ty rows => exact ⟨e, fun b hb => by simp [nmIn] at hb⟩
 | ref ty b off len cap ex =>
   obtain ⟨k, hk, e1⟩ := Z3 e
   obtain ⟨k1, k2, e2, e3, e5, e4, e6⟩ := hs b (by simp [nmIn])
   rw [hk] at e2; cases e2
   refine ⟨?_, fun b' hb => by simp [nmIn] at hb; subst hb; rw [hk]; simp⟩
   simp only [Z0r, e3, bnd, e4, e5, e6]
   exact e1
 | _ => simp [Z0r] at e
theorem Z4f {a c : A} (e : W8 h a = some c) (hs : ∀ b ∈ X7 a, Same (h b) (h' b)) : W8 h' a = some c ∧ ∀ b ∈ X7 a, h b ≠ none := by
 cases a with
 | v x => exact ⟨e, fun b hb => by simp [X7] at hb⟩
 | lit ty rows => exact ⟨e, fun b hb => by simp [X7] at hb⟩
 | ref ty b off len cap ex =>
   obtain ⟨k, hk, e1⟩ := Z3 e
   obtain ⟨k1, k2, e2, e3, e5, e4, e6⟩ := hs b (by simp [X7])
   rw [hk] at e2; cases e2
   refine ⟨?_, fun b' hb => by simp [X7] at hb; subst hb; rw [hk]; simp⟩
   simp only [W8, e3, bnd, e4, e5, e6]
   exact e1
 | _ => simp [W8] at e
theorem Z20 : ∀ {as cs : List A}, Z0e h as = some cs → (∀ b ∈ Zi as, Same (h b) (h' b)) → Z0e h' as = some cs ∧ ∀ b ∈ Zi as, h b ≠ none
 | [], cs, e, _ => ⟨e, fun b hb => by simp [Zi] at hb⟩
 | a :: as, cs, e, hs => by
   obtain ⟨c, hc, e1⟩ := Z3 e
   obtain ⟨cs', hcs, e2⟩ := Z3 e1
   obtain ⟨p1, p2⟩ := Z4f hc (fun b hb => hs b (by simp [Zi, hb]))
   obtain ⟨q1, q2⟩ := Z20 hcs (fun b hb => hs b (by simp [Zi, hb]))
   refine ⟨by simp only [Z0e, p1, q1, bnd]; exact e2, fun b hb => ?_⟩
   simp only [Zi, List.mem_append] at hb
   rcases hb with hb | hb
   · exact p2 b hb
   · exact q2 b hb
theorem Zeo {a c : A} (e : Z6m h a = some c) (hs : ∀ b ∈ Z38 h a, Same (h b) (h' b)) : Z6m h' a = some c ∧ Z38 h' a = Z38 h a ∧ ∀ b ∈ Z38 h a, h b ≠ none := by
 cases a with
 | pl r j => exact ⟨e, rfl, fun b hb => by simp [Z38] at hb⟩
 | ptr b i j =>
   obtain ⟨k, hk, e1⟩ := Z3 e
   obtain ⟨row, hrow, e2⟩ := Z3 e1
   obtain ⟨cs, hcs, e3⟩ := Z3 e2
   have hnm : Z38 h (.ptr b i j) = b :: Zi row := by simp [Z38, hk, hrow]
   obtain ⟨k1, k2, f2, f3, f5, f4, f6⟩ := hs b (by rw [hnm]; exact List.mem_cons_self)
   rw [hk] at f2; cases f2
   obtain ⟨p1, p2⟩ := Z20 hcs (fun b' hb => hs b' (by rw [hnm]; exact List.mem_cons_of_mem _ hb))
   refine ⟨?_, ?_, fun b' hb => ?_⟩
   · simp only [Z6m, f3, bnd, f4, hrow, p1]; exact e3
   · rw [hnm]; simp [Z38, f3, f4, hrow]
   · rw [hnm] at hb
     rcases List.mem_cons.1 hb with rfl | hb
     · rw [hk]; simp
     · exact p2 b' hb
 | _ => simp [Z6m] at e
theorem Zco : ∀ {as cs : List A}, Z60 h as = some cs → (∀ b ∈ Z1b h as, Same (h b) (h' b)) → Z60 h' as = some cs ∧ Z1b h' as = Z1b h as ∧ ∀ b ∈ Z1b h as, h b ≠ none
 | [], cs, e, _ => ⟨e, rfl, fun b hb => by simp [Z1b] at hb⟩
 | a :: as, cs, e, hs => by
   obtain ⟨c, hc, e1⟩ := Z3 e
   obtain ⟨cs', hcs, e2⟩ := Z3 e1
   obtain ⟨p1, p2, p3⟩ := Zeo hc (fun b hb => hs b (by simp [Z1b, hb]))
   obtain ⟨q1, q2, q3⟩ := Zco hcs (fun b hb => hs b (by simp [Z1b, hb]))
   refine ⟨by simp only [Z60, p1, q1, bnd]; exact e2, by simp only [Z1b, p2, q2], fun b hb => ?_⟩
   simp only [Z1b, List.mem_append] at hb
   rcases hb with hb | hb
   · exact p3 b hb
   · exact q3 b hb
theorem Zpk {a c : A} (e : Z9t h a = some c) (hs : ∀ b ∈ Z9n h a, Same (h b) (h' b)) : Z9t h' a = some c ∧ Z9n h' a = Z9n h a ∧ ∀ b ∈ Z9n h a, h b ≠ none := by
 cases a with
 | agg cs =>
   obtain ⟨ds, hds, e1⟩ := Z3 e
   obtain ⟨p1, p2⟩ := Z20 hds hs
   exact ⟨by simp only [Z9t, p1, bnd]; exact e1, rfl, p2⟩
 | fn f caps =>
   obtain ⟨ds, hds, e1⟩ := Z3 e
   obtain ⟨p1, p2, p3⟩ := Zco hds hs
   exact ⟨by simp only [Z9t, p1, bnd]; exact e1, p2, p3⟩
 | ptr b i j => exact Zeo (show Z6m h (.ptr b i j) = some c from e) hs
 | pl r j => exact ⟨e, rfl, fun b hb => by simp [Z9n, X7] at hb⟩
 | v x =>
   obtain ⟨p1, p2⟩ := Z4f (show W8 h (.v x) = some c from e) hs
   exact ⟨p1, rfl, p2⟩
 | lit ty rows =>
   obtain ⟨p1, p2⟩ := Z4f (show W8 h (.lit ty rows) = some c from e) hs
   exact ⟨p1, rfl, p2⟩
 | ref ty b off len cap ex =>
   obtain ⟨p1, p2⟩ := Z4f (show W8 h (.ref ty b off len cap ex) = some c from e) hs
   exact ⟨p1, rfl, p2⟩
 | _ => simp [Z9t, W8] at e
theorem Z49 : ∀ {as cs : List A}, Z0u h as = some cs → (∀ b ∈ Xa h as, Same (h b) (h' b)) → Z0u h' as = some cs ∧ Xa h' as = Xa h as ∧ ∀ b ∈ Xa h as, h b ≠ none
 | [], cs, e, _ => ⟨e, rfl, fun b hb => by simp [Xa] at hb⟩
 | a :: as, cs, e, hs => by
   obtain ⟨c, hc, e1⟩ := Z3 e
   obtain ⟨cs', hcs, e2⟩ := Z3 e1
   obtain ⟨p1, p2, p3⟩ := Zpk hc (fun b hb => hs b (by simp [Xa, hb]))
   obtain ⟨q1, q2, q3⟩ := Z49 hcs (fun b hb => hs b (by simp [Xa, hb]))
   refine ⟨by simp only [Z0u, p1, q1, bnd]; exact e2, by simp only [Xa, p2, q2], fun b hb => ?_⟩
   simp only [Xa, List.mem_append] at hb
   rcases hb with hb | hb
   · exact p3 b hb
   · exact q3 b hb
def rdV (h : Hp) (get : Opd → Option A) : AOp → List Nat
 | .ld _ _ _ p => match get p with | some v => nmIn v | none => []
 | .cbs _ _ x => match get x with | some v => nmIn v | none => []
 | .call _ _ _ _ xs => match xs.mapM get with | some as => Xa h as | none => []
 | _ => []
theorem Z93 {f g : Opd → Option A} : ∀ {xs : List Opd}, (∀ x ∈ xs, g x = f x) → xs.mapM g = xs.mapM f
 | [], _ => rfl
 | x :: xs, e => by
   rw [List.mapM_cons, List.mapM_cons, e x List.mem_cons_self, Z93 (xs := xs) (fun y hy => e y (List.mem_cons_of_mem _ hy))]
theorem Z1g {E : Env} {get get' : Opd → Option A} {pk pk' : Bool → Opd → Option Bool} {op : AOp} {u : A} (e : Zu E h get pk op = some u) (hg : ∀ x ∈ op.opds, get' x = get x) (hp : ∀ q, ∀ x ∈ op.opds, pk' q x = pk q x)
 (hs : ∀ b ∈ rdV h get op, Same (h b) (h' b)) : Zu E h' get' pk' op = some u ∧ ∀ b ∈ rdV h get op, h b ≠ none := by
 cases op with
 | ld d n g p =>
   simp only [Zu] at e ⊢
   rw [hg p (by simp [AOp.opds])]
   obtain ⟨r, hr, e1⟩ := Z3 e
   obtain ⟨v, hv, hr⟩ := Z3 hr
   simp only [rdV, hv] at hs ⊢
   obtain ⟨p1, p2⟩ := Zpv hr hs
   exact ⟨by simp only [bnd, p1]; exact e1, p2⟩
 | cbs d t x =>
   simp only [Zu] at e ⊢
   rw [hg x (by simp [AOp.opds])]
   obtain ⟨l, hl, e1⟩ := Z3 e
   obtain ⟨r, hr, hl⟩ := Z3 hl
   obtain ⟨v, hv, hr⟩ := Z3 hr
   simp only [rdV, hv] at hs ⊢
   obtain ⟨p1, p2⟩ := Z42 hr hs
   exact ⟨by simp only [bnd, p1, hl]; exact e1, p2⟩
 | call d nm w f xs =>
   simp only [Zu] at e ⊢
   have hm : xs.mapM get' = xs.mapM get := Z93 (fun x hx => hg x (by simpa [AOp.opds] using hx))
   rw [hm]
   obtain ⟨rs, hrs, e1⟩ := Z3 e
   obtain ⟨cs, hcs, hrs⟩ := Z3 hrs
   obtain ⟨as, has, hcs⟩ := Z3 hcs
   simp only [rdV, has] at hs ⊢
   obtain ⟨p1, p2, p3⟩ := Z49 hcs hs
   exact ⟨by simp only [bnd, p1, hrs]; exact e1, p3⟩
 | pick d c a b =>
   simp only [Zu] at e ⊢
   rw [hg c (by simp [AOp.opds])]
   have h1 : ∀ q, pk' q a = pk q a := fun q => hp q a (by simp [AOp.opds])
   have h2 : ∀ q, pk' q b = pk q b := fun q => hp q b (by simp [AOp.opds])
   simp only [h1, h2]
   exact ⟨e, fun b hb => by simp [rdV] at hb⟩
 | bin d o x y => simp only [Zu] at e ⊢; rw [hg x (by simp [AOp.opds]), hg y (by simp [AOp.opds])]; exact ⟨e, fun b hb => by simp [rdV] at hb⟩
 | eqs d ks ng x y => simp only [Zu] at e ⊢; rw [hg x (by simp [AOp.opds]), hg y (by simp [AOp.opds])]; exact ⟨e, fun b hb => by simp [rdV] at hb⟩
 | beq d ng x y => simp only [Zu] at e ⊢; rw [hg x (by simp [AOp.opds]), hg y (by simp [AOp.opds])]; exact ⟨e, fun b hb => by simp [rdV] at hb⟩
 | ia d t x y => simp only [Zu] at e ⊢; rw [hg x (by simp [AOp.opds]), hg y (by simp [AOp.opds])]; exact ⟨e, fun b hb => by simp [rdV] at hb⟩
 | ix d x y => simp only [Zu] at e ⊢; rw [hg x (by simp [AOp.opds]), hg y (by simp [AOp.opds])]; exact ⟨e, fun b hb => by simp [rdV] at hb⟩
 | mnx d m x y => simp only [Zu] at e ⊢; rw [hg x (by simp [AOp.opds]), hg y (by simp [AOp.opds])]; exact ⟨e, fun b hb => by simp [rdV] at hb⟩
 | mv d x => simp only [Zu] at e ⊢; rw [hg x (by simp [AOp.opds])]; exact ⟨e, fun b hb => by simp [rdV] at hb⟩
 | un d o x => simp only [Zu] at e ⊢; rw [hg x (by simp [AOp.opds])]; exact ⟨e, fun b hb => by simp [rdV] at hb⟩
 | cv d k x => simp only [Zu] at e ⊢; rw [hg x (by simp [AOp.opds])]; exact ⟨e, fun b hb => by simp [rdV] at hb⟩
 | fa d x o => simp only [Zu] at e ⊢; rw [hg x (by simp [AOp.opds])]; exact ⟨e, fun b hb => by simp [rdV] at hb⟩
 | fld d x o n g => simp only [Zu] at e ⊢; rw [hg x (by simp [AOp.opds])]; exact ⟨e, fun b hb => by simp [rdV] at hb⟩
 | ex d x i => simp only [Zu] at e ⊢; rw [hg x (by simp [AOp.opds])]; exact ⟨e, fun b hb => by simp [rdV] at hb⟩
 | len d s x => simp only [Zu] at e ⊢; rw [hg x (by simp [AOp.opds])]; exact ⟨e, fun b hb => by simp [rdV] at hb⟩
 | nl d x => simp only [Zu] at e ⊢; rw [hg x (by simp [AOp.opds])]; exact ⟨e, fun b hb => by simp [rdV] at hb⟩
 | bld d nm zs ps =>
   cases ps with
   | nil => exact ⟨e, fun b hb => by simp [rdV] at hb⟩
   | cons p ps => simp [Zu] at e
 | _ => simp [Zu] at e
variable {σ σ2 : St}
theorem Ze9 : ∀ {ps : List (Nat × Nat × Opd)} {cs : List A}, (∀ x ∈ ps.map (·.2.2), ev σ2 x = ev σ x) → Zat σ2 cs ps = Zat σ cs ps
 | [], cs, _ => rfl
 | (off, n, x) :: ps, cs, e => by
   simp only [Zat]
   rw [e x (by simp)]
   split
   · exact Ze9 (fun y hy => e y (by simp at hy ⊢; exact .inr hy))
   · rfl
theorem Z1a : ∀ {xs : List Opd}, (∀ x ∈ xs, ev σ2 x = ev σ x) → evs σ2 xs = evs σ xs
 | [], _ => rfl
 | x :: xs, e => by simp only [evs, e x List.mem_cons_self, Z1a (fun y hy => e y (List.mem_cons_of_mem _ hy))]
theorem Zb2 : ∀ {xs : List Opd}, (∀ x ∈ xs, ev σ2 x = ev σ x) → Xb σ2 xs = Xb σ xs
 | [], _ => rfl
 | x :: xs, e => by simp only [Xb, e x List.mem_cons_self, Zb2 (fun y hy => e y (List.mem_cons_of_mem _ hy))]
theorem Zcl {n : Nat} : ∀ {xs : List Opd} {rows : List (List A)}, Z3c σ n xs = some rows → (∀ x ∈ xs, ev σ2 x = ev σ x) → (∀ b ∈ Xb σ xs, Same (σ.h b) (σ2.h b)) → Z3c σ2 n xs = some rows ∧ ∀ b ∈ Xb σ xs, σ.h b ≠ none
 | [], rows, e, _, _ => ⟨e, fun b hb => by simp [Xb] at hb⟩
 | x :: xs, rows, e, he, hs => by
   simp only [Z3c] at e ⊢
   rw [he x List.mem_cons_self]
   split at e
   · rename_i hl
     rw [if_pos hl]
     obtain ⟨r, hr, e1⟩ := Z3 e
     obtain ⟨rs, hrs, e2⟩ := Z3 e1
     obtain ⟨p1, p2⟩ := Z20 hr (fun b hb => hs b (by simp [Xb, hb]))
     obtain ⟨q1, q2⟩ := Zcl hrs (fun y hy => he y (List.mem_cons_of_mem _ hy)) (fun b hb => hs b (by simp [Xb, hb]))
     refine ⟨by simp only [p1, q1, bnd]; exact e2, fun b hb => ?_⟩
     simp only [Xb, List.mem_append] at hb
     rcases hb with hb | hb
     · exact p2 b hb
     · exact q2 b hb
   · cases e
theorem Z3u {x : Option Opd} {z : Nat} (e : ∀ y ∈ x.toList, ev σ2 y = ev σ y) : optI σ2 x z = optI σ x z := by
 cases x with
 | none => rfl
 | some y => simp only [optI, e y (by simp)]
theorem Zbt {t : Option Nat} {lo hi mx : Option Opd} {a : A} (e1 : ∀ y ∈ lo.toList, ev σ2 y = ev σ y) (e2 : ∀ y ∈ hi.toList, ev σ2 y = ev σ y) (e3 : ∀ y ∈ mx.toList, ev σ2 y = ev σ y) : Z5t σ2 t lo hi mx a = Z5t σ t lo hi mx a := by
 cases a with
 | v x => cases x <;> simp only [Z5t, Z3u e1, Z3u e2, Z3u e3]
 | _ => simp only [Z5t, Z3u e1, Z3u e2, Z3u e3]
end Go.Vm
set_option linter.unusedVariables false
set_option linter.unusedSimpArgs false
namespace Go.Vm
open Go.RowKit
structure LocE (f : St → Option St) (ag : St → St → Prop) (σ : St) (d : Option Nat) (u : A) (F : Hp → Hp) (iv Md : Nat → Prop) (Rd : List Nat) : Prop where
 eq : f σ = some ⟨put σ.s d u, F σ.h, σ.n, σ.base⟩
 pw : ∀ h h' b, h b = h' b → F h b = F h' b
 cls : ∀ b, iv b ∨ Md b ∨ (∀ h, F h b = h b) ∨ (b ∈ Rd ∧ ∀ h, F h b = frz1 (h b))
 has : ∀ b, b ∈ Rd ∨ Md b → σ.h b ≠ none
 move : ∀ σ2, ag σ σ2 → σ2.n = σ.n → σ2.base = σ.base → (∀ b ∈ Rd, Same (σ.h b) (σ2.h b)) → (∀ b, Md b → σ2.h b = σ.h b) → f σ2 = some ⟨put σ2.s d u, F σ2.h, σ2.n, σ2.base⟩
def AOp.isCall : AOp → Bool
 | .call _ _ _ _ _ | .callv _ _ _ _ _ | .callx _ _ _ _ _ => true
 | _ => false
def AOp.easy : AOp → Bool
 | .stn _ _ _ | .clr _ _ _ | .dcall _ _ _ | .dcf _ _ _ | .dcallv _ _ _ | .dcs _ _ _ | .no _ => false
 | _ => true
def AOp.quiet : AOp → Bool
 | .ld _ _ _ _ | .cbs _ _ _ => true
 | _ => false
def AOp.isDc : AOp → Bool
 | .dcall _ _ _ | .dcallv _ _ _ => true
 | _ => false
def AOp.rdOpds : AOp → List Opd
 | .ld _ _ _ p => [p] | .cbs _ _ x => [x] | .bsl _ _ _ _ xs => xs | .app _ _ _ _ x => [x] | .apb _ _ _ _ x => [x] | .st _ _ x => [x]
 | _ => []
def AOp.mdOpds : AOp → List Opd
 | .app _ _ _ s _ => [s] | .apb _ _ _ s _ => [s] | .st _ p _ => [p]
 | _ => []
def nmP : A → List Nat
 | .ptr c _ _ => [c]
 | .fn _ caps => Z5x caps
 | _ => []
inductive Rt (h : Hp) : Nat → Nat → Prop
 | refl (c : Nat) : Rt h c c
 | step {c b d : Nat} {k : Blk} {row : List A} (hk : h c = some k) (hr : row ∈ k.rows) (hb : b ∈ Zi row) (t : Rt h b d) : Rt h c d
def RchV (h : Hp) (a : A) (b : Nat) : Prop := ∃ c, (c ∈ nmX a ∨ c ∈ nmP a) ∧ Rt h c b
def Rch (τ : St) (op : AOp) (b : Nat) : Prop := ∃ x ∈ op.opds, RchV τ.h (ev τ x) b
def agOp (op : AOp) (σ σ2 : St) : Prop := ∀ x ∈ op.opds, ev σ2 x = ev σ x
structure LocX (τ : St) (op : AOp) (iv Md : Nat → Prop) (Rd : List Nat) : Prop where
 ivs : ∀ b, iv b → span (τ.n + op.names.1) op.names.2 b
 rdx : ∀ b ∈ Rd, (op.isCall = true ∧ Rch τ op b) ∨ ∃ x ∈ op.rdOpds, b ∈ nmX (ev τ x)
 mdx : ∀ b, Md b → ∃ y ∈ op.mdOpds, b ∈ nmIn (ev τ y)
structure LocC (τ : St) (op : AOp) (iv Md : Nat → Prop) (Rd : List Nat) : Prop where
 ivs : ∀ b, iv b → span (τ.n + op.names.1) op.names.2 b
 rdx : ∀ b ∈ Rd, (op.isCall = true ∧ Rch τ op b) ∨ ∃ x ∈ op.rdOpds, b ∈ nmX (ev τ x)
 mdx : ∀ b, Md b → ∃ y ∈ op.mdOpds, b ∈ nmIn (ev τ y)
 call : ∀ d nm w f xs, op = .call d nm w f xs → ∀ b ∈ Xa τ.h (evs τ xs), b ∈ Rd := by nofun
theorem LocC.x {τ : St} {op : AOp} {iv Md : Nat → Prop} {Rd : List Nat} (l : LocC τ op iv Md Rd) : LocX τ op iv Md Rd := ⟨l.ivs, l.rdx, l.mdx⟩
variable {h : Hp} {σ σ' σ2 : St} {E : Env} {tot : Nat}
theorem Zjx {a : A} {b : Nat} (hb : b ∈ Z38 h a) : ∃ c ∈ nmIn a, Rt h c b := by
 cases a with
 | ptr c i j =>
   simp only [Z38] at hb
   split at hb
   · rename_i k hk
     rcases List.mem_cons.1 hb with rfl | hb
     · exact ⟨b, by simp [nmIn], .refl b⟩
     · rw [List.getD_eq_getElem?_getD] at hb
       cases hr : k.rows[i]? with
       | none => rw [hr] at hb; simp [Zi] at hb
       | some r => rw [hr] at hb; exact ⟨c, by simp [nmIn], .step hk (List.mem_of_getElem? hr) hb (.refl b)⟩
   · simp at hb
 | _ => simp [Z38] at hb
theorem Zei : ∀ {as : List A} {b : Nat}, b ∈ Z1b h as → ∃ c ∈ Z5x as, Rt h c b
 | [], b, hb => by simp [Z1b] at hb
 | a :: as, b, hb => by
   simp only [Z1b, List.mem_append] at hb
   rcases hb with hb | hb
   · obtain ⟨c, hc, r⟩ := Zjx hb
     exact ⟨c, by simp [Z5x, hc], r⟩
   · obtain ⟨c, hc, r⟩ := Zei hb
     exact ⟨c, by simp [Z5x, hc], r⟩
theorem Ztl {a : A} {b : Nat} (hb : b ∈ Z9n h a) : RchV h a b := by
 cases a with
 | agg cs => exact ⟨b, .inl (by simp only [nmX, A.cells, List.mem_append]; exact .inr hb), .refl b⟩
 | fn f caps => obtain ⟨c, hc, r⟩ := Zei hb; exact ⟨c, .inr hc, r⟩
 | ptr c i j =>
   obtain ⟨c', hc, r⟩ := Zjx (show b ∈ Z38 h (.ptr c i j) from hb)
   exact ⟨c', .inr hc, r⟩
 | ref ty c off len cap ex => exact ⟨b, .inl (by simp only [nmX, nmIn, List.mem_append]; exact .inl hb), .refl b⟩
 | _ => simp [Z9n, X7] at hb
theorem Z6d : ∀ {as : List A} {b : Nat}, b ∈ Xa h as → ∃ a ∈ as, RchV h a b
 | [], b, hb => by simp [Xa] at hb
 | a :: as, b, hb => by
   simp only [Xa, List.mem_append] at hb
   rcases hb with hb | hb
   · exact ⟨a, by simp, Ztl hb⟩
   · obtain ⟨c, hc, r⟩ := Z6d hb
     exact ⟨c, by simp [hc], r⟩
theorem Zgq : ∀ {xs : List Opd} {a : A}, a ∈ evs σ xs → ∃ x ∈ xs, a = ev σ x
 | [], a, h => by simp [evs] at h
 | x :: xs, a, h => by
   simp only [evs, List.mem_cons] at h
   rcases h with rfl | h
   · exact ⟨x, by simp, rfl⟩
   · obtain ⟨y, hy, e⟩ := Zgq h
     exact ⟨y, by simp [hy], e⟩
theorem Zen : ∀ {xs : List Opd} {b : Nat}, b ∈ Xb σ xs → ∃ x ∈ xs, b ∈ nmX (ev σ x)
 | [], b, h => by simp [Xb] at h
 | x :: xs, b, h => by
   simp only [Xb, List.mem_append] at h
   rcases h with h | h
   · exact ⟨x, by simp, by simp [nmX, h]⟩
   · obtain ⟨y, hy, e⟩ := Zen h
     exact ⟨y, by simp [hy], e⟩
def noN : Nat → Prop := fun _ => False
theorem LocE.quiet {f : St → Option St} {ag : St → St → Prop} {d : Option Nat} {u : A} {Rd : List Nat} (e : f σ = some ⟨put σ.s d u, σ.h, σ.n, σ.base⟩) (has : ∀ b ∈ Rd, σ.h b ≠ none)
 (mv : ∀ σ2, ag σ σ2 → σ2.n = σ.n → σ2.base = σ.base → (∀ b ∈ Rd, Same (σ.h b) (σ2.h b)) → f σ2 = some ⟨put σ2.s d u, σ2.h, σ2.n, σ2.base⟩) : LocE f ag σ d u (fun h => h) noN noN Rd :=
 ⟨e, fun h h' b e => e, fun b => .inr (.inr (.inl fun h => rfl)), fun b hb => by rcases hb with hb | hb; exact has b hb; exact hb.elim, fun σ2 a b c d' _ => mv σ2 a b c d'⟩
theorem Z4b : ∀ (zs : List A) (h h' : Hp) (n : Nat), (Zt h n zs).1 = (Zt h' n zs).1
 | [], h, h', n => rfl
 | z :: zs, h, h', n => by
   cases z <;> simp only [Zt] <;> first | rw [Z4b zs _ (upd h' n _) (n + 1)] | rw [Z4b zs h h' n]
theorem Z66 : ∀ (zs : List A) (h h' : Hp) (n b : Nat), h b = h' b → (Zt h n zs).2 b = (Zt h' n zs).2 b
 | [], h, h', n, b, e => e
 | z :: zs, h, h', n, b, e => by
   cases z <;> simp only [Zt] <;> first | exact Z66 zs h h' n b e | (refine Z66 zs _ _ (n + 1) b ?_; unfold upd; split <;> first | rfl | exact e)
theorem Z4e : ∀ (zs : List A) (h : Hp) (n b : Nat), ¬ span n (zs.filter Wl).length b → (Zt h n zs).2 b = h b
 | [], h, n, b, _ => rfl
 | z :: zs, h, n, b, hb => by
   cases z with
   | lit ty r =>
     have hl : ((A.lit ty r :: zs).filter Wl).length = (zs.filter Wl).length + 1 := by simp [List.filter_cons, Wl]
     rw [hl] at hb
     simp only [Zt]
     rw [Z4e zs _ (n + 1) b (by simp only [span] at hb ⊢; omega), upd, if_neg (by simp only [span] at hb; omega)]
   | _ => simp only [Zt]; exact Z4e zs h n b (by simpa [List.filter_cons, Wl] using hb)
theorem Zed (as : List A) (h h' : Hp) (n : Nat) : (Zz h n as).1 = (Zz h' n as).1 := by
 rw [(Z1z as h n).1, (Z1z as h' n).1]
theorem Zkr (as : List A) (h h' : Hp) (n b : Nat) (e : h b = h' b) : (Zz h n as).2 b = (Zz h' n as).2 b := by
 rw [(Z1z as h n).2, (Z1z as h' n).2]
 unfold over
 split
 · rfl
 · exact e
theorem Z71 : ∀ (as : List A) (h : Hp) (n b : Nat), ¬ span n (Z4w as) b → (Zs h n as).2 b = h b
 | [], h, n, b, _ => rfl
 | a :: as, h, n, b, hb => by
   cases a with
   | olit ty r =>
     simp only [Z4w] at hb
     simp only [Zs]
     rw [Z71 as _ (n + 1) b (by simp only [span] at hb ⊢; omega), upd, if_neg (by simp only [span] at hb; omega)]
   | _ => simp only [Zs]; exact Z71 as h n b (by simpa [Z4w] using hb)
theorem Zsz (a : A) (h : Hp) (n b : Nat) (hb : ¬ span n (Z4o a) b) : (Z1x h n a).2 b = h b := by
 cases a with
 | agg cs => exact Z71 cs h n b hb
 | olit ty r => simp only [Z1x]; rw [upd, if_neg (by simp only [span, Z4o] at hb; omega)]
 | _ => rfl
theorem Z3y : ∀ (as : List A) (h : Hp) (n b : Nat), ¬ span n (Y9 as) b → (Zz h n as).2 b = h b
 | [], h, n, b, _ => rfl
 | a :: as, h, n, b, hb => by
   simp only [Zz, Y9] at hb ⊢
   rw [Z3y as _ _ b (by simp only [span] at hb ⊢; omega), Zsz a h n b (by simp only [span] at hb ⊢; omega)]
theorem Z95 {as cs : List A} (e : Z0u h as = some cs) : ∀ b ∈ Xa h as, h b ≠ none := by
 have cell : ∀ {a c : A}, W8 h a = some c → ∀ b ∈ X7 a, h b ≠ none := by
  intro a c e b hb
  cases a with
  | ref ty b' off len cap ex =>
    obtain ⟨k, hk, _⟩ := Z3 e
    simp [X7] at hb; subst hb; rw [hk]; simp
  | _ => simp [X7] at hb
 have cells : ∀ {as cs : List A}, Z0e h as = some cs → ∀ b ∈ Zi as, h b ≠ none := by
  intro as
  induction as with
  | nil => intro cs e b hb; simp [Zi] at hb
  | cons a as ih =>
    intro cs e b hb
    obtain ⟨c, hc, e1⟩ := Z3 e
    obtain ⟨cs', hcs, _⟩ := Z3 e1
    simp only [Zi, List.mem_append] at hb
    rcases hb with hb | hb
    · exact cell hc b hb
    · exact ih hcs b hb
 have ptr : ∀ {a c : A}, Z6m h a = some c → ∀ b ∈ Z38 h a, h b ≠ none := by
  intro a c e b hb
  cases a with
  | ptr b' i j =>
    obtain ⟨k, hk, e1⟩ := Z3 e
    obtain ⟨row, hrow, e2⟩ := Z3 e1
    obtain ⟨cs, hcs, _⟩ := Z3 e2
    have hnm : Z38 h (.ptr b' i j) = b' :: Zi row := by simp [Z38, hk, hrow]
    rw [hnm] at hb
    rcases List.mem_cons.1 hb with rfl | hb
    · rw [hk]; simp
    · exact cells hcs b hb
  | _ => simp [Z38] at hb
 have ptrs : ∀ {as cs : List A}, Z60 h as = some cs → ∀ b ∈ Z1b h as, h b ≠ none := by
  intro as
  induction as with
  | nil => intro cs e b hb; simp [Z1b] at hb
  | cons a as ih =>
    intro cs e b hb
    obtain ⟨c, hc, e1⟩ := Z3 e
    obtain ⟨cs', hcs, _⟩ := Z3 e1
    simp only [Z1b, List.mem_append] at hb
    rcases hb with hb | hb
    · exact ptr hc b hb
    · exact ih hcs b hb
 have val : ∀ {a c : A}, Z9t h a = some c → ∀ b ∈ Z9n h a, h b ≠ none := by
  intro a c e b hb
  cases a with
  | agg cs => obtain ⟨ds, hds, _⟩ := Z3 e; exact cells hds b hb
  | fn f caps => obtain ⟨ds, hds, _⟩ := Z3 e; exact ptrs hds b hb
  | ptr b' i j => exact ptr (show Z6m h (.ptr b' i j) = some c from e) b hb
  | ref ty b' off len cap ex => exact cell (show W8 h (.ref ty b' off len cap ex) = some c from e) b hb
  | _ => simp [Z9n, X7] at hb
 induction as generalizing cs with
 | nil => intro b hb; simp [Xa] at hb
 | cons a as ih =>
   intro b hb
   obtain ⟨c, hc, e1⟩ := Z3 e
   obtain ⟨cs', hcs, _⟩ := Z3 e1
   simp only [Xa, List.mem_append] at hb
   rcases hb with hb | hb
   · exact val hc b hb
   · exact ih hcs b hb
theorem Zoy {d : Option Nat} {nm w : Nat} {ag : St → St → Prop} {f : St → Option St} {as : List A} {fn : Nat} (hf : f σ = Z2d E σ d nm w fn as) (hag : ∀ σ2, ag σ σ2 → σ2.n = σ.n → σ2.base = σ.base → f σ2 = Z2d E σ2 d nm w fn as)
 (e : f σ = some σ') : ∃ u F rs, σ' = ⟨put σ.s d u, F σ.h, σ.n, σ.base⟩ ∧ Y9 rs ≤ w ∧ LocE f ag σ d u F (span (σ.n + nm) (Y9 rs)) noN (Xa σ.h as) := by
 have e' := e
 rw [hf] at e
 unfold Z2d at e
 obtain ⟨cs, hcs, e1⟩ := Z3 e
 obtain ⟨rs, hrs, e2⟩ := Z3 e1
 split at e2
 · cases e2
 · rename_i hw
   simp only [Option.some.injEq] at e2
   have p3 := Z95 hcs
   have haft : ∀ h2 : Hp, Xa h2 as = Xa σ.h as → aft h2 as rs = if Z4m rs then frz h2 (Xa σ.h as) else h2 := fun h2 q => by unfold aft; rw [q]
   refine ⟨pack (Zz (aft σ.h as rs) (σ.n + nm) rs).1, fun h => (Zz (if Z4m rs then frz h (Xa σ.h as) else h) (σ.n + nm) rs).2, rs, ?_, by omega, ⟨?_, fun h h' b q => ?_, fun b => ?_, fun b hb => ?_, fun σ2 h1 h2 h3 h4 _ => ?_⟩⟩
   · rw [← e2, haft σ.h rfl]
   · rw [e', ← e2, haft σ.h rfl]
   · refine Zkr _ _ _ _ _ ?_
     split
     · rw [Z3l, Z3l, q]
     · exact q
   · by_cases hs : span (σ.n + nm) (Y9 rs) b
     · exact .inl hs
     · refine .inr (.inr ?_)
       by_cases ha : Z4m rs = true
       · by_cases hb : b ∈ Xa σ.h as
         · exact .inr ⟨hb, fun h => by rw [Z3y _ _ _ _ hs, if_pos ha, Z3l, if_pos hb]⟩
         · exact .inl fun h => by rw [Z3y _ _ _ _ hs, if_pos ha, Z3l, if_neg hb]
       · exact .inl fun h => by rw [Z3y _ _ _ _ hs, if_neg ha]
   · rcases hb with hb | hb
     · exact p3 b hb
     · exact hb.elim
   · rw [hag σ2 h1 h2 h3]
     obtain ⟨q1, q2, q3⟩ := Z49 hcs h4
     unfold Z2d
     simp only [q1, bnd, hrs]
     rw [if_neg hw, haft σ2.h q2, h2, h3]
     congr 2
     rw [Zed rs _ (aft σ.h as rs)]
theorem Z6f {f : A → Option (A × List Nat)} : ∀ {as cs : List A} {bs : List Nat}, clDs f as = some (cs, bs) → ∀ b ∈ bs, ∃ a ∈ as, ∃ p, f a = some p ∧ b ∈ p.2
 | [], cs, bs, e, b, hb => by
   simp only [clDs, Option.some.injEq, Prod.mk.injEq] at e
   rw [← e.2] at hb; simp at hb
 | a :: as, cs, bs, e, b, hb => by
   obtain ⟨p, hp, e1⟩ := Z3 e
   obtain ⟨q, hq, e2⟩ := Z3 e1
   simp only [Option.some.injEq, Prod.mk.injEq] at e2
   rw [← e2.2] at hb
   rcases List.mem_append.1 hb with hb | hb
   · exact ⟨a, by simp, p, hp, hb⟩
   · obtain ⟨a', h1, h2⟩ := Z6f (bs := q.2) hq b hb
     exact ⟨a', by simp [h1], h2⟩
theorem Z6g {f g : A → Option (A × List Nat)} : ∀ {as cs : List A} {bs : List Nat}, clDs f as = some (cs, bs) → (∀ a ∈ as, ∀ p, f a = some p → (∀ b ∈ p.2, b ∈ bs) → g a = some p) → clDs g as = some (cs, bs)
 | [], cs, bs, e, _ => e
 | a :: as, cs, bs, e, hg => by
   obtain ⟨p, hp, e1⟩ := Z3 e
   obtain ⟨q, hq, e2⟩ := Z3 e1
   simp only [Option.some.injEq, Prod.mk.injEq] at e2
   obtain ⟨rfl, rfl⟩ := e2
   unfold clDs
   rw [hg a (by simp) p hp (fun b hb => List.mem_append_left _ hb)]
   show bnd (clDs g as) _ = _
   rw [Z6g (bs := q.2) hq (fun a' ha p' hp' hb => hg a' (by simp [ha]) p' hp' (fun b hb' => List.mem_append_right _ (hb b hb')))]
   rfl
theorem Z7y {f : A → Option (A × List Nat)} : ∀ {rows rs : List (List A)} {bs : List Nat}, Z0o f rows = some (rs, bs) → ∀ b ∈ bs, ∃ row ∈ rows, ∃ a ∈ row, ∃ p, f a = some p ∧ b ∈ p.2
 | [], rs, bs, e, b, hb => by
   simp only [Z0o, Option.some.injEq, Prod.mk.injEq] at e
   rw [← e.2] at hb; simp at hb
 | r :: rows, rs, bs, e, b, hb => by
   obtain ⟨p, hp, e1⟩ := Z3 e
   obtain ⟨q, hq, e2⟩ := Z3 e1
   simp only [Option.some.injEq, Prod.mk.injEq] at e2
   rw [← e2.2] at hb
   rcases List.mem_append.1 hb with hb | hb
   · exact ⟨r, by simp, Z6f (bs := p.2) hp b hb⟩
   · obtain ⟨r', h1, h2⟩ := Z7y (bs := q.2) hq b hb
     exact ⟨r', by simp [h1], h2⟩
theorem Z8k {f g : A → Option (A × List Nat)} : ∀ {rows rs : List (List A)} {bs : List Nat}, Z0o f rows = some (rs, bs) → (∀ a p, f a = some p → (∀ b ∈ p.2, b ∈ bs) → g a = some p) → Z0o g rows = some (rs, bs)
 | [], rs, bs, e, _ => e
 | r :: rows, rs, bs, e, hg => by
   obtain ⟨p, hp, e1⟩ := Z3 e
   obtain ⟨q, hq, e2⟩ := Z3 e1
   simp only [Option.some.injEq, Prod.mk.injEq] at e2
   obtain ⟨rfl, rfl⟩ := e2
   unfold Z0o
   rw [Z6g (bs := p.2) hp (fun a _ p' hp' hb => hg a p' hp' (fun b hb' => List.mem_append_left _ (hb b hb')))]
   show bnd (Z0o g rows) _ = _
   rw [Z8k (bs := q.2) hq (fun a p' hp' hb => hg a p' hp' (fun b hb' => List.mem_append_right _ (hb b hb')))]
   rfl
theorem Z33 (h : Hp) : ∀ (m : Nat) (a : A) (p : A × List Nat), clD h m a = some p → (∀ b ∈ p.2, h b ≠ none) ∧ (∀ b ∈ p.2, ∃ c ∈ X7 a, Rt h c b) ∧ ∀ h' : Hp, (∀ b ∈ p.2, Same (h b) (h' b)) → clD h' m a = some p
 | m, .v x, p, e => by simp only [clD, Option.some.injEq] at e; subst e; exact ⟨fun b hb => by simp at hb, fun b hb => by simp at hb, fun h' _ => by simp only [clD]⟩
 | m, .lit ty r, p, e => by simp only [clD, Option.some.injEq] at e; subst e; exact ⟨fun b hb => by simp at hb, fun b hb => by simp at hb, fun h' _ => by simp only [clD]⟩
 | 0, .ref ty b off len cap ex, p, e => by simp [clD] at e
 | m + 1, .ref ty c off len cap ex, p, e => by
   simp only [clD] at e
   obtain ⟨k, hk, e1⟩ := Z3 e
   split at e1
   · rename_i hle
     cases hbx : k.box with
     | false =>
       rw [hbx] at e1
       simp only [cond_false, Option.some.injEq] at e1
       subst e1
       refine ⟨fun b hb => by simp at hb; subst hb; rw [hk]; simp, fun b hb => by simp at hb; subst hb; exact ⟨b, by simp [X7], .refl b⟩, fun h' hs => ?_⟩
       obtain ⟨k1, k2, e2, e3, e5, e4, e6⟩ := hs c (by simp)
       rw [hk] at e2; cases e2
       simp only [clD, e3, bnd, e4, e5, e6, hbx, cond_false]
       rw [if_pos hle]
     | true =>
       rw [hbx] at e1
       simp only [cond_true] at e1
       obtain ⟨q, hq, e2⟩ := Z3 e1
       simp only [Option.some.injEq] at e2
       subst e2
       have one := Z7y (bs := q.2) hq
       refine ⟨fun b hb => ?_, fun b hb => ?_, fun h' hs => ?_⟩
       · rcases List.mem_cons.1 hb with rfl | hb
         · rw [hk]; simp
         · obtain ⟨row, h1, a, h2, p', h3, h4⟩ := one b hb
           exact (Z33 h m a p' h3).1 b h4
       · rcases List.mem_cons.1 hb with rfl | hb
         · exact ⟨b, by simp [X7], .refl b⟩
         · obtain ⟨row, h1, a, h2, p', h3, h4⟩ := one b hb
           obtain ⟨d, hd, ht⟩ := (Z33 h m a p' h3).2.1 b h4
           obtain ⟨i, hi⟩ := List.getElem?_of_mem h2
           refine ⟨c, by simp [X7], .step hk (List.mem_of_mem_drop (List.mem_of_mem_take h1)) ?_ ht⟩
           have : ∀ (l : List A), a ∈ l → d ∈ Zi l := by
            intro l
            induction l with
            | nil => intro h; simp at h
            | cons x l ih =>
              intro h
              simp only [Zi, List.mem_append]
              rcases List.mem_cons.1 h with rfl | h
              · exact .inl hd
              · exact .inr (ih h)
           exact this row h2
       · obtain ⟨k1, k2, e2, e3, e5, e4, e6⟩ := hs c (by simp)
         rw [hk] at e2; cases e2
         have := Z8k (g := clD h' m) (bs := q.2) hq (fun a p' hp' hb => (Z33 h m a p' hp').2.2 h' (fun b hb' => hs b (List.mem_cons_of_mem _ (hb b hb'))))
         simp only [clD, e3, bnd, e4, e5, e6, hbx, cond_true, this]
         rw [if_pos hle]
   · cases e1
 | m, .bad, p, e => by cases m <;> simp [clD] at e
 | m, .err, p, e => by cases m <;> simp [clD] at e
 | m, .und, p, e => by cases m <;> simp [clD] at e
 | m, .olit _ _, p, e => by cases m <;> simp [clD] at e
 | m, .ptr _ _ _, p, e => by cases m <;> simp [clD] at e
 | m, .pl _ _, p, e => by cases m <;> simp [clD] at e
 | m, .fn _ _, p, e => by cases m <;> simp [clD] at e
 | m, .agg _, p, e => by cases m <;> simp [clD] at e
 | m, .tup _, p, e => by cases m <;> simp [clD] at e
 | m, .ifg _ _, p, e => by cases m <;> simp [clD] at e
theorem Zxj {a : A} {b : Nat} (hb : b ∈ X7 a) : b ∈ nmX a := by
 cases a with
 | ref ty c off len cap ex => simp [X7] at hb; subst hb; simp [nmX, nmIn]
 | _ => simp [X7] at hb
theorem Z9q {h : Hp} {a : A} {p : A × List Nat} (e : clDV h a = some p) : (∀ b ∈ p.2, h b ≠ none) ∧ (∀ b ∈ p.2, RchV h a b) ∧ ∀ h' : Hp, (∀ b ∈ p.2, Same (h b) (h' b)) → clDV h' a = some p := by
 have flat : clDV h a = clD h 4 a → (∀ h' : Hp, clDV h' a = clD h' 4 a) → (∀ b ∈ p.2, h b ≠ none) ∧ (∀ b ∈ p.2, RchV h a b) ∧ ∀ h' : Hp, (∀ b ∈ p.2, Same (h b) (h' b)) → clDV h' a = some p := fun q1 q2 => by
  rw [q1] at e
  obtain ⟨r1, r2, r3⟩ := Z33 h 4 a p e
  exact ⟨r1, fun b hb => by obtain ⟨c, hc, t⟩ := r2 b hb; exact ⟨c, .inl (Zxj hc), t⟩, fun h' hs => by rw [q2]; exact r3 h' hs⟩
 cases a with
 | agg cs =>
   obtain ⟨q, hq, e1⟩ := Z3 e
   simp only [Option.some.injEq] at e1
   subst e1
   have one := Z6f (bs := q.2) hq
   refine ⟨fun b hb => ?_, fun b hb => ?_, fun h' hs => ?_⟩
   · obtain ⟨a, h1, p', h2, h3⟩ := one b hb
     exact (Z33 h 4 a p' h2).1 b h3
   · obtain ⟨a, h1, p', h2, h3⟩ := one b hb
     obtain ⟨c, hc, t⟩ := (Z33 h 4 a p' h2).2.1 b h3
     refine ⟨c, .inl ?_, t⟩
     simp only [nmX, nmIn, A.cells, List.nil_append]
     have : ∀ (l : List A), a ∈ l → c ∈ Zi l := by
      intro l
      induction l with
      | nil => intro h; simp at h
      | cons x l ih =>
        intro h
        simp only [Zi, List.mem_append]
        rcases List.mem_cons.1 h with rfl | h
        · exact .inl hc
        · exact .inr (ih h)
     exact this cs h1
   · show bnd (clDs (clD h' 4) cs) _ = _
     rw [Z6g (g := clD h' 4) (bs := q.2) hq (fun a _ p' hp' hb => (Z33 h 4 a p' hp').2.2 h' (fun b hb' => hs b (hb b hb')))]
     rfl
 | _ => exact flat rfl (fun _ => rfl)
theorem Zqr {d : Option Nat} {nm w : Nat} {ag : St → St → Prop} {f : St → Option St} {as : List A} {fn : Nat} (hf : f σ = Z2q E σ d nm w fn as) (hag : ∀ σ2, ag σ σ2 → σ2.n = σ.n → σ2.base = σ.base → f σ2 = Z2q E σ2 d nm w fn as)
 (e : f σ = some σ') : ∃ u F rs bs, σ' = ⟨put σ.s d u, F σ.h, σ.n, σ.base⟩ ∧ Y9 rs ≤ w ∧ LocE f ag σ d u F (span (σ.n + nm) (Y9 rs)) noN bs ∧ ∀ b ∈ bs, ∃ a ∈ as, RchV σ.h a b := by
 have e' := e
 rw [hf] at e
 unfold Z2q at e
 obtain ⟨p, hp, e1⟩ := Z3 e
 obtain ⟨rs, hrs, e2⟩ := Z3 e1
 split at e2
 · cases e2
 · rename_i hw
   simp only [Option.some.injEq] at e2
   have one := Z6f (f := clDV σ.h) (bs := p.2) hp
   refine ⟨pack (Zz σ.h (σ.n + nm) rs).1, fun h => (Zz h (σ.n + nm) rs).2, rs, p.2, e2.symm, by omega, ⟨by rw [e', ← e2], fun h h' b q => Zkr _ _ _ _ _ q, fun b => ?_, fun b hb => ?_, fun σ2 h1 h2 h3 h4 _ => ?_⟩, fun b hb => ?_⟩
   · by_cases hs : span (σ.n + nm) (Y9 rs) b
     · exact .inl hs
     · exact .inr (.inr (.inl fun h => by rw [Z3y _ _ _ _ hs]))
   · rcases hb with hb | hb
     · obtain ⟨a, _, p', h2, h3⟩ := one b hb
       exact (Z9q h2).1 b h3
     · exact hb.elim
   · rw [hag σ2 h1 h2 h3]
     have q1 : Zdd σ2.h as = some p := Z6g (g := clDV σ2.h) (bs := p.2) hp (fun a _ p' hp' hb => (Z9q hp').2.2 σ2.h (fun b hb' => h4 b (hb b hb')))
     unfold Z2q
     simp only [q1, bnd, hrs]
     rw [if_neg hw, h2, h3]
     congr 2
     rw [Zed rs _ σ.h]
   · obtain ⟨a, h1, p', h2, h3⟩ := one b hb
     exact ⟨a, h1, (Z9q h2).2.1 b h3⟩
theorem Zpd {bx : Bool} {t : Nat} {a : A} {r : List (List A)} {h h' : Hp} (e : Z7a bx t h a = some r) (hs : ∀ b ∈ nmIn a, Same (h b) (h' b)) : Z7a bx t h' a = some r := by
 cases a with
 | lit ty rows => exact e
 | ref ty b off len cap ex =>
   obtain ⟨k, hk, e1⟩ := Z3 e
   obtain ⟨k1, k2, e2, e3, e5, e4, e6⟩ := hs b (by simp [nmIn])
   rw [hk] at e2; cases e2
   simp only [Z7a, e3, bnd, e4, e5, e6]
   exact e1
 | _ => simp [Z7a] at e
theorem Zty {bx : Bool} {t : Nat} {a : A} {r : List (List A)} {h : Hp} (e : Z7a bx t h a = some r) : ∀ b ∈ nmIn a, h b ≠ none := by
 intro b hb
 cases a with
 | ref ty b' off len cap ex =>
   obtain ⟨k, hk, _⟩ := Z3 e
   simp [nmIn] at hb; subst hb; rw [hk]; simp
 | ptr b' i j => simp [Z7a] at e
 | _ => simp [nmIn] at hb
end Go.Vm
set_option linter.unusedVariables false
set_option linter.unusedSimpArgs false
namespace Go.Vm
open Go.RowKit
variable {h : Hp} {σ σ' σ2 : St} {E : Env} {tot : Nat}
theorem Zsf {get : Opd → Option A} {op : AOp} {τ : St} (hh : τ.h = h) (hc : ∀ x ∈ op.opds, ∀ v, get x = some v → v = ev τ x) (hop : op.isCall = false) : ∀ b ∈ rdV h get op, ∃ x ∈ op.rdOpds, b ∈ nmX (ev τ x) := by
 intro b hb
 cases op with
 | ld d n g p =>
   simp only [rdV] at hb
   split at hb
   · rename_i v hv
     exact ⟨p, by simp [AOp.rdOpds], by rw [← hc p (by simp [AOp.opds]) v hv]; simp [nmX, hb]⟩
   · simp at hb
 | cbs d t x =>
   simp only [rdV] at hb
   split at hb
   · rename_i v hv
     exact ⟨x, by simp [AOp.rdOpds], by rw [← hc x (by simp [AOp.opds]) v hv]; simp [nmX, hb]⟩
   · simp at hb
 | call d nm w f xs => simp [AOp.isCall] at hop
 | _ => simp [rdV] at hb
theorem Z3a {h h' : Hp} {n b : Nat} {x : Option Blk} (e : h b = h' b) : upd h n x b = upd h' n x b := by unfold upd; split <;> first | rfl | exact e
theorem Z0d {h : Hp} {n b : Nat} {x : Option Blk} (hb : b ≠ n) : upd h n x b = h b := by rw [upd, if_neg hb]
theorem Zc4 {as cs : List A} (e : Z0e h as = some cs) : ∀ b ∈ Zi as, h b ≠ none := by
 have := Z95 (h := h) (as := [.agg as]) (cs := [.agg cs]) (by simp [Z0u, Z9t, e, bnd])
 intro b hb
 exact this b (by simp [Xa, Z9n, hb])
theorem Zer {n : Nat} : ∀ {xs : List Opd} {rows : List (List A)}, Z3c σ n xs = some rows → ∀ b ∈ Xb σ xs, σ.h b ≠ none
 | [], rows, e, b, hb => by simp [Xb] at hb
 | x :: xs, rows, e, b, hb => by
   simp only [Z3c] at e
   split at e
   · obtain ⟨r, hr, e1⟩ := Z3 e
     obtain ⟨rs, hrs, e2⟩ := Z3 e1
     simp only [Xb, List.mem_append] at hb
     rcases hb with hb | hb
     · exact Zc4 hr b hb
     · exact Zer hrs b hb
   · cases e
theorem Ze5 {t : Nat} {a : A} {r : List (List A)} (e : Z0r t h a = some r) : ∀ b ∈ nmIn a, h b ≠ none := by
 intro b hb
 cases a with
 | ref ty b' off len cap ex =>
   obtain ⟨k, hk, _⟩ := Z3 e
   simp [nmIn] at hb; subst hb; rw [hk]; simp
 | ptr b' i j => simp [Z0r] at e
 | _ => simp [nmIn] at hb
theorem Zsb {a : A} {r : List A × Nat} (e : Z7u h a = some r) : ∀ b ∈ nmIn a, h b ≠ none := by
 intro b hb
 cases a with
 | ptr b' i j =>
   obtain ⟨k, hk, _⟩ := Z3 e
   simp [nmIn] at hb; subst hb; rw [hk]; simp
 | ref ty b' off len cap ex => simp [Z7u] at e
 | _ => simp [nmIn] at hb
theorem Z61 {get : Opd → Option A} {pk : Bool → Opd → Option Bool} {op : AOp} {u : A} (e : Zu E h get pk op = some u) : ∀ b ∈ rdV h get op, h b ≠ none := by
 intro b hb
 cases op with
 | ld d n g p =>
   simp only [Zu] at e
   obtain ⟨r, hr, e1⟩ := Z3 e
   obtain ⟨v, hv, hr⟩ := Z3 hr
   simp only [rdV, hv] at hb
   exact Zsb hr b hb
 | cbs d t x =>
   simp only [Zu] at e
   obtain ⟨l, hl, e1⟩ := Z3 e
   obtain ⟨r, hr, hl⟩ := Z3 hl
   obtain ⟨v, hv, hr⟩ := Z3 hr
   simp only [rdV, hv] at hb
   exact Ze5 hr b hb
 | call d nm w f xs =>
   simp only [Zu] at e
   obtain ⟨rs, hrs, e1⟩ := Z3 e
   obtain ⟨cs, hcs, hrs⟩ := Z3 hrs
   obtain ⟨as, has, hcs⟩ := Z3 hcs
   simp only [rdV, has] at hb
   exact Z95 hcs b hb
 | _ => simp [rdV] at hb
theorem Zww {f : Nat} {caps : List A} {a : A} {b : Nat} (ha : a ∈ caps) (hr : RchV h a b) (hcp : Wf caps = true) : RchV h (.fn f caps) b := by
 obtain ⟨i, hi⟩ := List.getElem?_of_mem ha
 have hca := Zmm hcp hi
 have hin : ∀ c ∈ nmIn a, c ∈ Z5x caps := fun c hc => Zc3 hi hc
 obtain ⟨c, hc, t⟩ := hr
 cases a with
 | ptr c' i j =>
   refine ⟨c, .inr (hin c ?_), t⟩
   rcases hc with hc | hc
   · simpa [nmX, nmIn, A.cells, Zi, X7] using hc
   · simpa [nmP, nmIn] using hc
 | pl r j =>
   rcases hc with hc | hc
   · simp [nmX, nmIn, A.cells, Zi, X7] at hc
   · simp [nmP] at hc
 | _ => simp [Zmr] at hca
abbrev Res' (E : Env) (tot : Nat) (op : AOp) (σ σ' : St) : Prop :=
 ∃ u F iv Md Rd, σ' = ⟨put σ.s op.dst u, F σ.h, σ.n, σ.base⟩ ∧ LocE (step E tot op) (agOp op) σ op.dst u F iv Md Rd ∧ LocC σ op iv Md Rd
theorem LocC.none {op : AOp} (hc : op.isCall = false) : LocC σ op noN noN [] := ⟨fun b h => h.elim, fun b hb => by simp at hb, fun b h => h.elim, fun d nm w f xs e => by subst e; simp [AOp.isCall] at hc⟩
theorem Zbw {n : Nat} {σ σ2 : St} : ∀ {xs : List Opd}, (∀ y ∈ xs, ev σ2 y = ev σ y) → Z3f σ2 n xs = Z3f σ n xs
 | [], _ => rfl
 | x :: xs, h => by
   simp only [Z3f, h x List.mem_cons_self, Zbw (fun y hy => h y (List.mem_cons_of_mem _ hy))]
theorem Z74 {n : Nat} {σ σ2 : St} : ∀ {xs : List Opd}, (∀ y ∈ xs, ev σ2 y = ev σ y) → Z3o σ2 n xs = Z3o σ n xs
 | [], _ => rfl
 | x :: xs, h => by
   simp only [Z3o, h x List.mem_cons_self, Z74 (fun y hy => h y (List.mem_cons_of_mem _ hy))]
theorem Zo4 {op : AOp} (heasy : op.easy = true) (e : step E tot op σ = some σ') : Res' E tot op σ σ' := by
 cases op with
 | stn nm ty p => simp [AOp.easy] at heasy
 | clr t zs x => simp [AOp.easy] at heasy
 | dcall d f xs => simp [AOp.easy] at heasy
 | dcf d f xs => simp [AOp.easy] at heasy
 | dcallv d y xs => simp [AOp.easy] at heasy
 | mkb d nm ty zs l c =>
   have e' := e
   simp only [step] at e'
   unfold mkbA at e'
   split at e'
   · rename_i k1 li k2 ci hl hcv
     split at e'
     · rename_i hc
       simp only [Option.some.injEq] at e'
       refine ⟨.ref ty (σ.n + nm) 0 li.toNat li.toNat true, fun h => upd h (σ.n + nm) (some ⟨ty, List.replicate li.toNat zs, true, true⟩), fun b => b = σ.n + nm, noN, [], e'.symm, ⟨by rw [e, ← e']; rfl, fun h h' b q => Z3a q, fun b => ?_, fun b hb => by rcases hb with hb | hb; simp at hb; exact hb.elim, fun σ2 h1 h2 h3 _ _ => ?_⟩, ⟨fun b hb => by subst hb; simp [AOp.names, span], fun b hb => by simp at hb, fun b h => h.elim, nofun⟩⟩
       · by_cases hb : b = σ.n + nm
         · exact .inl hb
         · exact .inr (.inr (.inl fun h => Z0d hb))
       · simp only [step, h1 l (by simp [AOp.opds]), h1 c (by simp [AOp.opds]), hl, hcv, mkbA, h2, h3]
         rw [if_pos hc]; rfl
     · cases e'
   · cases e'
 | bsb d nm ty n xs =>
   have e' := e
   simp only [step] at e'
   obtain ⟨rows, hrows, e1⟩ := Z3 e'
   simp only [Option.some.injEq] at e1
   refine ⟨.ref ty (σ.n + nm) 0 rows.length rows.length true, fun h => upd h (σ.n + nm) (some ⟨ty, rows, true, true⟩), fun b => b = σ.n + nm, noN, [], e1.symm, ⟨by rw [e, ← e1]; rfl, fun h h' b q => Z3a q, fun b => ?_, fun b hb => by rcases hb with hb | hb; simp at hb; exact hb.elim, fun σ2 h1 h2 h3 _ _ => ?_⟩, ⟨fun b hb => by subst hb; simp [AOp.names, span], fun b hb => by simp at hb, fun b h => h.elim, nofun⟩⟩
   · by_cases hb : b = σ.n + nm
     · exact .inl hb
     · exact .inr (.inr (.inl fun h => Z0d hb))
   · have q : Z3f σ2 n xs = some rows := by rw [← hrows]; exact Zbw (fun y hy => h1 y (by simpa [AOp.opds] using hy))
     simp only [step, q, h2, h3, bnd]; rfl
 | bll d ty n xs =>
   have e' := e
   simp only [step] at e'
   obtain ⟨rows, hrows, e1⟩ := Z3 e'
   simp only [Option.some.injEq] at e1
   refine ⟨.lit ty rows, fun h => h, noN, noN, [], e1.symm, LocE.quiet (by rw [e, ← e1]; rfl) (fun b hb => by simp at hb) (fun σ2 h1 h2 h3 _ => ?_), LocC.none rfl⟩
   have q : Z3o σ2 n xs = some rows := by rw [← hrows]; exact Z74 (fun y hy => h1 y (by simpa [AOp.opds] using hy))
   simp only [step, q, bnd]; rfl
 | callx d nm w f xs =>
   obtain ⟨u, F, rs, bs, h1, h2, h3, h4⟩ := Zqr (E := E) (σ := σ) (f := step E tot (.callx d nm w f xs)) (ag := agOp (.callx d nm w f xs)) (as := evs σ xs) (fn := f) (d := d) (nm := nm) (w := w) rfl (fun σ2 q _ _ => by simp only [step, Z1a (σ := σ) (xs := xs) (fun y hy => q y hy)]) e
   refine ⟨u, F, _, noN, _, h1, h3, ⟨fun b hb => by simp only [AOp.names, span] at hb ⊢; omega, fun b hb => .inl ⟨rfl, ?_⟩, fun b h => h.elim, nofun⟩⟩
   obtain ⟨a, ha, hr⟩ := h4 b hb
   obtain ⟨x, hx, rfl⟩ := Zgq ha
   exact ⟨x, hx, hr⟩
 | apb d nm t s x =>
   have e' := e
   simp only [step] at e'
   obtain ⟨ys, hys, e1⟩ := Z3 e'
   have e2 := e1
   unfold appG at e1
   split at e1
   · rename_i ty b len cap ex hse
     obtain ⟨k, hk, f1⟩ := Z3 e1
     have hhas := Zty hys
     split at f1
     · rename_i hc
       split at f1
       · rename_i hcap
         simp only [Option.some.injEq] at f1
         refine ⟨.ref ty (σ.n + nm) 0 (len + ys.length) (len + ys.length) false, fun h => upd (upd h b none) (σ.n + nm) (some { k with rows := k.rows.take len ++ ys, box := if ys.length = 0 then k.box else true }), fun c => c = σ.n + nm, fun c => c = b, nmIn (ev σ x), f1.symm,
          ⟨by rw [e, ← f1]; rfl, fun h h' c q => Z3a (Z3a q), fun c => ?_, fun c hc => ?_, fun σ2 h1 h2 h3 h4 h5 => ?_⟩, ⟨fun c hc => by subst hc; simp [AOp.names, span], fun c hc => .inr ⟨x, by simp [AOp.rdOpds], by simp [nmX, hc]⟩, fun c hc => ⟨s, by simp [AOp.mdOpds], by rw [hc, hse]; simp [nmIn]⟩, nofun⟩⟩
         · by_cases hb : c = σ.n + nm
           · exact .inl hb
           · by_cases hb2 : c = b
             · exact .inr (.inl hb2)
             · exact .inr (.inr (.inl fun h => by rw [Z0d hb, Z0d hb2]))
         · rcases hc with hc | hc
           · exact hhas c hc
           · rw [hc, hk]; simp
         · have hk2 : σ2.h b = some k := (h5 b rfl).trans hk
           have q1 := Zpd hys h4
           simp only [step, h1 s (by simp [AOp.opds]), h1 x (by simp [AOp.opds]), q1, bnd, hse, appG, hk2, h2, h3]
           rw [if_pos hc, if_pos hcap]; rfl
       · rename_i hcap
         rw [if_neg (by simp)] at f1
         cases f1
     · cases f1
   · cases e1
 | dcs d f xs => simp [AOp.easy] at heasy
 | no why => simp [AOp.easy] at heasy
 | mvn d nm ty =>
   have e' := e
   simp only [step, Option.some.injEq] at e'
   refine ⟨_, fun h => upd h (σ.n + nm) (some ⟨ty, [], true, false⟩), fun b => b = σ.n + nm, noN, [], e'.symm, ⟨by rw [e, ← e']; rfl, fun h h' b q => Z3a q, fun b => ?_, fun b hb => by rcases hb with hb | hb; simp at hb; exact hb.elim, fun σ2 _ h2 h3 _ _ => ?_⟩, ⟨fun b hb => by subst hb; simp [AOp.names, span], fun b hb => by simp at hb, fun b h => h.elim, nofun⟩⟩
   · by_cases hb : b = σ.n + nm
     · exact .inl hb
     · exact .inr (.inr (.inl fun h => Z0d hb))
   · simp only [step, h2, h3, put]; rfl
 | al d nm ty zs =>
   have e' := e
   simp only [step, Option.some.injEq] at e'
   refine ⟨.ptr (σ.n + nm) 0 0, fun h => upd (Zt h (σ.n + nm + 1) zs).2 (σ.n + nm) (some ⟨ty, [(Zt σ.h (σ.n + nm + 1) zs).1], true, true⟩), span (σ.n + nm) (1 + (zs.filter Wl).length), noN, [], e'.symm,
    ⟨by rw [e, ← e']; rfl, fun h h' b q => Z3a (Z66 _ _ _ _ _ q), fun b => ?_, fun b hb => by rcases hb with hb | hb; simp at hb; exact hb.elim, fun σ2 _ h2 h3 _ _ => ?_⟩, ⟨fun b hb => by simpa [AOp.names] using hb, fun b hb => by simp at hb, fun b h => h.elim, nofun⟩⟩
   · by_cases hb : span (σ.n + nm) (1 + (zs.filter Wl).length) b
     · exact .inl hb
     · refine .inr (.inr (.inl fun h => ?_))
       rw [Z0d (by simp only [span] at hb; omega), Z4e _ _ _ _ (by simp only [span] at hb ⊢; omega)]
   · simp only [step, h2, h3, put]
     rw [Z4b zs σ2.h σ.h]; rfl
 | box d nm ty n x =>
   have e' := e
   simp only [step] at e'
   split at e'
   · rename_i hc
     simp only [Option.some.injEq] at e'
     refine ⟨.ptr (σ.n + nm) 0 0, fun h => upd h (σ.n + nm) (some ⟨ty, [(ev σ x).cells], true, true⟩), fun b => b = σ.n + nm, noN, [], e'.symm, ⟨by rw [e, ← e']; rfl, fun h h' b q => Z3a q, fun b => ?_, fun b hb => by rcases hb with hb | hb; simp at hb; exact hb.elim, fun σ2 h1 h2 h3 _ _ => ?_⟩, ⟨fun b hb => by subst hb; simp [AOp.names, span], fun b hb => by simp at hb, fun b h => h.elim, nofun⟩⟩
     · by_cases hb : b = σ.n + nm
       · exact .inl hb
       · exact .inr (.inr (.inl fun h => Z0d hb))
     · simp only [step, h2, h3, put, h1 x (by simp [AOp.opds])]
       rw [if_pos hc]; rfl
   · cases e'
 | bld d nm zs ps =>
   have e' := e
   simp only [step] at e'
   obtain ⟨cs, hcs, e1⟩ := Z3 e'
   simp only [Option.some.injEq] at e1
   refine ⟨.agg cs, fun h => (Zt h (σ.n + nm) zs).2, span (σ.n + nm) (zs.filter Wl).length, noN, [], e1.symm,
    ⟨by rw [e, ← e1]; rfl, fun h h' b q => Z66 _ _ _ _ _ q, fun b => ?_, fun b hb => by rcases hb with hb | hb; simp at hb; exact hb.elim, fun σ2 h1 h2 h3 _ _ => ?_⟩, ⟨fun b hb => by simpa [AOp.names] using hb, fun b hb => by simp at hb, fun b h => h.elim, nofun⟩⟩
   · by_cases hb : span (σ.n + nm) (zs.filter Wl).length b
     · exact .inl hb
     · exact .inr (.inr (.inl fun h => Z4e _ _ _ _ hb))
   · simp only [step, h2, h3, put]
     rw [Z4b zs σ2.h σ.h, Ze9 (σ := σ) (fun y hy => h1 y hy), hcs]; rfl
 | bsl d nm ty n xs =>
   have e' := e
   simp only [step] at e'
   obtain ⟨rows, hrows, e1⟩ := Z3 e'
   simp only [Option.some.injEq] at e1
   have hhas : ∀ b ∈ Xb σ xs, σ.h b ≠ none := Zer hrows
   refine ⟨.ref ty (σ.n + nm) 0 rows.length rows.length true, fun h => frz (upd h (σ.n + nm) (some ⟨ty, rows, true, false⟩)) (Xb σ xs), fun b => b = σ.n + nm, noN, Xb σ xs, e1.symm,
    ⟨by rw [e, ← e1]; rfl, fun h h' b q => ?_, fun b => ?_, fun b hb => by rcases hb with hb | hb; exact hhas b hb; exact hb.elim, fun σ2 h1 h2 h3 h4 _ => ?_⟩, ⟨fun b hb => by subst hb; simp [AOp.names, span], fun b hb => .inr (Zen hb), fun b h => h.elim, nofun⟩⟩
   · simp only [Z3l]; rw [Z3a q]
   · by_cases hb : b = σ.n + nm
     · exact .inl hb
     · by_cases hm : b ∈ Xb σ xs
       · exact .inr (.inr (.inr ⟨hm, fun h => by rw [Z3l, if_pos hm, Z0d hb]⟩))
       · exact .inr (.inr (.inl fun h => by rw [Z3l, if_neg hm, Z0d hb]))
   · obtain ⟨q1, _⟩ := Zcl hrows h1 h4
     simp only [step, h2, h3, put, q1, bnd]
     rw [Zb2 (σ := σ) (xs := xs) h1]; rfl
 | st n p x =>
   have e' := e
   simp only [step] at e'
   obtain ⟨hh, hst, e1⟩ := Z3 e'
   simp only [Option.some.injEq] at e1
   have hp : ∀ σ2, agOp (.st n p x) σ σ2 → ev σ2 p = ev σ p ∧ ev σ2 x = ev σ x := fun σ2 q => ⟨q p (by simp [AOp.opds]), q x (by simp [AOp.opds])⟩
   have hst' := hst
   unfold storeAt at hst'
   split at hst'
   · rename_i b i j hpe
     obtain ⟨k, hk, f1⟩ := Z3 hst'
     obtain ⟨row, hrow, f2⟩ := Z3 f1
     unfold Z4c at f2
     split at f2
     · rename_i hc
       split at f2
       · rename_i hbox
         split at f2
         · cases f2
         · rename_i hfar
           simp only [Option.some.injEq] at f2
           refine ⟨.und, fun h => upd h b (some { k with rows := k.rows.set i (Z1y row j (ev σ x).cells) }), noN, fun c => c = b, [], by rw [← e1, ← f2]; rfl,
            ⟨by rw [e, ← e1, ← f2]; rfl, fun h h' b q => Z3a q, fun c => ?_, fun c hc => by rcases hc with hc | hc; simp at hc; subst hc; rw [hk]; simp, fun σ2 h1 h2 h3 _ h5 => ?_⟩, ⟨fun b h => h.elim, fun b hb => by simp at hb, fun c hc => ⟨p, by simp [AOp.mdOpds], by rw [hc, hpe]; simp [nmIn]⟩, nofun⟩⟩
           · by_cases hb : c = b
             · exact .inr (.inl hb)
             · exact .inr (.inr (.inl fun h => Z0d hb))
           · obtain ⟨g1, g2⟩ := hp σ2 h1
             have hk2 : σ2.h b = some k := (h5 b rfl).trans hk
             simp only [step, g1, g2, hpe, storeAt, hk2, bnd, hrow, Z4c, h2, h3]
             rw [if_pos hc, if_pos hbox, if_neg hfar]; rfl
       · rename_i hbox
         obtain ⟨cs, hcs, f3⟩ := Z3 f2
         simp only [Option.some.injEq] at f3
         have hhas := (Zc4 hcs)
         refine ⟨.und, fun h => frz (upd h b (some { k with rows := k.rows.set i (Z1y row j cs) })) (Zi (ev σ x).cells), noN, fun c => c = b, Zi (ev σ x).cells, by rw [← e1, ← f3]; rfl,
          ⟨by rw [e, ← e1, ← f3]; rfl, fun h h' b q => ?_, fun c => ?_, fun c hc => ?_, fun σ2 h1 h2 h3 h4 h5 => ?_⟩, ⟨fun b h => h.elim, fun c hc => .inr ⟨x, by simp [AOp.rdOpds], by simp [nmX, hc]⟩, fun c hc => ⟨p, by simp [AOp.mdOpds], by rw [hc, hpe]; simp [nmIn]⟩, nofun⟩⟩
         · simp only [Z3l]; rw [Z3a q]
         · by_cases hb : c = b
           · exact .inr (.inl hb)
           · by_cases hm : c ∈ Zi (ev σ x).cells
             · exact .inr (.inr (.inr ⟨hm, fun h => by rw [Z3l, if_pos hm, Z0d hb]⟩))
             · exact .inr (.inr (.inl fun h => by rw [Z3l, if_neg hm, Z0d hb]))
         · rcases hc with hc | hc
           · exact hhas c hc
           · subst hc; rw [hk]; simp
         · obtain ⟨g1, g2⟩ := hp σ2 h1
           have hk2 : σ2.h b = some k := (h5 b rfl).trans hk
           obtain ⟨q1, _⟩ := Z20 hcs h4
           simp only [step, g1, g2, hpe, storeAt, hk2, bnd, hrow, Z4c, h2, h3]
           rw [if_pos hc, if_neg hbox, q1]; rfl
     · cases f2
   · cases hst'
 | mkf d f caps =>
   have e' := e
   simp only [step] at e'
   split at e'
   · rename_i hc
     simp only [Option.some.injEq] at e'
     refine ⟨.fn f (evs σ caps), fun h => h, noN, noN, [], e'.symm, LocE.quiet (by rw [e, ← e']; rfl) (fun b hb => by simp at hb) (fun σ2 h1 h2 h3 _ => ?_), LocC.none rfl⟩
     simp only [step, Z1a (σ := σ) (xs := caps) (fun y hy => h1 y hy)]
     rw [if_pos hc]; rfl
   · cases e'
 | mks d nm ty zs l c =>
   have e' := e
   simp only [step] at e'
   unfold mksA at e'
   split at e'
   · rename_i k1 li k2 ci hl hcv
     split at e'
     · rename_i hc
       simp only [Option.some.injEq] at e'
       refine ⟨.ref ty (σ.n + nm) 0 li.toNat li.toNat true, fun h => upd h (σ.n + nm) (some ⟨ty, List.replicate li.toNat zs, true, false⟩), fun b => b = σ.n + nm, noN, [], e'.symm, ⟨by rw [e, ← e']; rfl, fun h h' b q => Z3a q, fun b => ?_, fun b hb => by rcases hb with hb | hb; simp at hb; exact hb.elim, fun σ2 h1 h2 h3 _ _ => ?_⟩, ⟨fun b hb => by subst hb; simp [AOp.names, span], fun b hb => by simp at hb, fun b h => h.elim, nofun⟩⟩
       · by_cases hb : b = σ.n + nm
         · exact .inl hb
         · exact .inr (.inr (.inl fun h => Z0d hb))
       · simp only [step, h1 l (by simp [AOp.opds]), h1 c (by simp [AOp.opds]), hl, hcv, mksA, h2, h3]
         rw [if_pos hc]; rfl
     · cases e'
   · cases e'
 | sl d t x lo hi mx =>
   have e' := e
   simp only [step] at e'
   obtain ⟨u, hu, e1⟩ := Z3 e'
   simp only [Option.some.injEq] at e1
   refine ⟨u, fun h => h, noN, noN, [], e1.symm, LocE.quiet (by rw [e, ← e1]; rfl) (fun b hb => by simp at hb) (fun σ2 h1 h2 h3 _ => ?_), LocC.none rfl⟩
   have hm : ∀ y, y ∈ lo.toList ∨ y ∈ hi.toList ∨ y ∈ mx.toList → ev σ2 y = ev σ y := fun y hy => h1 y (by
    simp only [AOp.opds, List.mem_cons, List.mem_append]
    rcases hy with hy | hy | hy
    · exact .inr (.inl (.inl hy))
    · exact .inr (.inl (.inr hy))
    · exact .inr (.inr hy))
   simp only [step, h1 x (by simp [AOp.opds])]
   rw [Zbt (σ := σ) (fun y hy => hm y (.inl hy)) (fun y hy => hm y (.inr (.inl hy))) (fun y hy => hm y (.inr (.inr hy))), hu]; rfl
 | call d nm w f xs =>
   obtain ⟨u, F, rs, h1, h2, h3⟩ := Zoy (E := E) (σ := σ) (f := step E tot (.call d nm w f xs)) (ag := agOp (.call d nm w f xs)) (as := evs σ xs) (fn := f) (d := d) (nm := nm) (w := w) rfl (fun σ2 q _ _ => by simp only [step, Z1a (σ := σ) (xs := xs) (fun y hy => q y hy)]) e
   refine ⟨u, F, _, noN, _, h1, h3, ⟨fun b hb => by simp only [AOp.names, span] at hb ⊢; omega, fun b hb => .inl ⟨rfl, ?_⟩, fun b h => h.elim, fun d nm w f xs e b hb => by cases e; exact hb⟩⟩
   obtain ⟨a, ha, hr⟩ := Z6d hb
   obtain ⟨x, hx, rfl⟩ := Zgq ha
   exact ⟨x, hx, hr⟩
 | callv d nm w y xs =>
   have e' := e
   simp only [step] at e'
   obtain ⟨p, hp, e1⟩ := Z3 e'
   obtain ⟨u, F, rs, h1, h2, h3⟩ := Zoy (E := E) (σ := σ) (f := step E tot (.callv d nm w y xs)) (ag := agOp (.callv d nm w y xs)) (as := evs σ xs ++ p.2) (fn := p.1) (d := d) (nm := nm) (w := w) (by simp only [step, hp, bnd])
    (fun σ2 q _ _ => by simp only [step, Z1a (σ := σ) (xs := xs) (fun z hz => q z (by simp [AOp.opds, hz])), q y (by simp [AOp.opds]), hp, bnd]) e
   refine ⟨u, F, _, noN, _, h1, h3, ⟨fun b hb => by simp only [AOp.names, span] at hb ⊢; omega, fun b hb => .inl ⟨rfl, ?_⟩, fun b h => h.elim, nofun⟩⟩
   obtain ⟨a, ha, hr⟩ := Z6d hb
   rcases List.mem_append.1 ha with ha | ha
   · obtain ⟨x, hx, rfl⟩ := Zgq ha
     exact ⟨x, by simp [AOp.opds, hx], hr⟩
   · refine ⟨y, by simp [AOp.opds], ?_⟩
     have hy : ev σ y = .fn p.1 p.2 := by
      cases hv : ev σ y with
      | fn f caps =>
        rw [hv] at hp
        simp only [fnA] at hp
        cases hcp : Wf caps with
        | false => rw [hcp] at hp; cases hp
        | true => rw [hcp] at hp; simp only [cond_true, Option.some.injEq] at hp; rw [← hp]
      | _ => rw [hv] at hp; simp [fnA] at hp
     have hcp : Wf p.2 = true := by
      rw [hy] at hp
      simp only [fnA] at hp
      cases hcp : Wf p.2 with
      | false => rw [hcp] at hp; cases hp
      | true => rfl
     rw [hy]
     exact Zww ha hr hcp
 | app d nm t s x =>
   have e' := e
   simp only [step] at e'
   obtain ⟨ys, hys, e1⟩ := Z3 e'
   have e2 := e1
   unfold appA at e1
   split at e1
   · rename_i ty b len cap ex hse
     obtain ⟨k, hk, f1⟩ := Z3 e1
     have hhas := (Z42 (h' := σ.h) hys (fun b hb => Same.refl (Ze5 hys b hb))).2
     split at f1
     · rename_i hc
       have mdx : ∀ c, c = b → ∃ y ∈ (AOp.app d nm t s x).mdOpds, c ∈ nmIn (ev σ y) := fun c hc => ⟨s, by simp [AOp.mdOpds], by rw [hc, hse]; simp [nmIn]⟩
       have rdx : ∀ c ∈ nmIn (ev σ x), ((AOp.app d nm t s x).isCall = true ∧ Rch σ (.app d nm t s x) c) ∨ ∃ y ∈ (AOp.app d nm t s x).rdOpds, c ∈ nmX (ev σ y) := fun c hc => .inr ⟨x, by simp [AOp.rdOpds], by simp [nmX, hc]⟩
       have hasb : ∀ c, c ∈ nmIn (ev σ x) ∨ c = b → σ.h c ≠ none := fun c hc => by
        rcases hc with hc | hc
        · exact hhas c hc
        · rw [hc, hk]; simp
       split at f1
       · rename_i hcap
         simp only [Option.some.injEq] at f1
         refine ⟨.ref ty (σ.n + nm) 0 (len + ys.length) (len + ys.length) false, fun h => upd (upd h b none) (σ.n + nm) (some { k with rows := k.rows.take len ++ ys }), fun c => c = σ.n + nm, fun c => c = b, nmIn (ev σ x), f1.symm,
          ⟨by rw [e, ← f1]; rfl, fun h h' c q => Z3a (Z3a q), fun c => ?_, hasb, fun σ2 h1 h2 h3 h4 h5 => ?_⟩, ⟨fun c hc => by subst hc; simp [AOp.names, span], rdx, mdx, nofun⟩⟩
         · by_cases hb : c = σ.n + nm
           · exact .inl hb
           · by_cases hb2 : c = b
             · exact .inr (.inl hb2)
             · exact .inr (.inr (.inl fun h => by rw [Z0d hb, Z0d hb2]))
         · have hk2 : σ2.h b = some k := (h5 b rfl).trans hk
           obtain ⟨q1, _⟩ := Z42 hys h4
           simp only [step, h1 s (by simp [AOp.opds]), h1 x (by simp [AOp.opds]), q1, bnd, hse, appA, hk2, h2, h3]
           rw [if_pos hc, if_pos hcap]; rfl
       · rename_i hcap
         split at f1
         · rename_i hle
           simp only [Option.some.injEq] at f1
           refine ⟨.ref ty b 0 (len + ys.length) cap ex, fun h => upd h b (some { k with rows := k.rows.take len ++ ys ++ k.rows.drop (len + ys.length) }), noN, fun c => c = b, nmIn (ev σ x), f1.symm,
            ⟨by rw [e, ← f1]; rfl, fun h h' c q => Z3a q, fun c => ?_, hasb, fun σ2 h1 h2 h3 h4 h5 => ?_⟩, ⟨fun c hc => hc.elim, rdx, mdx, nofun⟩⟩
           · by_cases hb2 : c = b
             · exact .inr (.inl hb2)
             · exact .inr (.inr (.inl fun h => by rw [Z0d hb2]))
           · have hk2 : σ2.h b = some k := (h5 b rfl).trans hk
             obtain ⟨q1, _⟩ := Z42 hys h4
             simp only [step, h1 s (by simp [AOp.opds]), h1 x (by simp [AOp.opds]), q1, bnd, hse, appA, hk2, h2, h3]
             rw [if_pos hc, if_neg hcap, if_pos hle]; rfl
         · cases f1
     · cases f1
   · cases e1
 | _ =>
   have e' := e
   simp only [step, AOp.yields, X6] at e'
   obtain ⟨u, hu, e1⟩ := Z3 e'
   simp only [Option.some.injEq] at e1
   refine ⟨u, fun h => h, noN, noN, _, e1.symm, LocE.quiet (by rw [e, ← e1]; rfl) (Z61 hu) (fun σ2 h1 h2 h3 h4 => ?_), ⟨fun b h => h.elim, fun b hb => .inr (Zsf (τ := σ) (h := σ.h) (get := fun x => some (ev σ x)) rfl (fun x _ v hv => by simp only [Option.some.injEq] at hv; exact hv.symm) rfl b hb), fun b h => h.elim, nofun⟩⟩
   obtain ⟨q1, _⟩ := Z1g (get' := fun x => some (ev σ2 x)) (pk' := fun q x => evq q σ2 x) hu (fun x hx => by rw [h1 x hx]) (fun q x hx => by simp only [evq, h1 x hx]) h4
   simp only [step, AOp.yields, X6]
   rw [q1]; rfl
end Go.Vm
set_option linter.unusedVariables false
set_option linter.unusedSimpArgs false
namespace Go.Vm
open Go.RowKit
variable {h : Hp} {σ σ' σ2 : St} {E : Env} {tot : Nat}
def tauG : G → St → St
 | .o _, σ => σ
 | .g _ _ _, σ => strip σ
def Zy5 : A → Bool
 | .v _ | .lit _ _ => true
 | _ => false
def clean : A → Bool
 | .v _ | .lit _ _ => true
 | .agg cs => cs.all Zy5
 | .fn _ [] => true
 | _ => false
def Wy : Opd → Bool
 | .t _ => true
 | .k a => clean a
def Z2e : List Opd → List Nat
 | [] => []
 | .t n :: xs => n :: Z2e xs
 | _ :: xs => Z2e xs
def G.looks : G → List Nat
 | .o op => Z2e op.opds
 | .g s _ op => s :: Z2e op.opds
def G.active : G → St → Prop
 | .o _, _ => True
 | .g s w _, σ => test σ s w = some true
def agG (g : G) (σ σ2 : St) : Prop := ∀ t ∈ g.looks, σ2.s t = σ.s t
theorem Z0s : ∀ {xs : List Opd} {n : Nat}, .t n ∈ xs → n ∈ Z2e xs
 | [], n, h => by simp at h
 | x :: xs, n, h => by
   rcases List.mem_cons.1 h with rfl | h
   · simp [Z2e]
   · have := Z0s h
     cases x <;> simp [Z2e, this]
theorem Znk {g : G} (q : agG g σ σ2) {n : Nat} (h : .t n ∈ g.op.opds) : σ2.s n = σ.s n := by
 refine q n ?_
 cases g with
 | o op => exact Z0s h
 | g s w op => exact List.mem_cons_of_mem _ (Z0s h)
theorem Z4v {g : G} (q : agG g σ σ2) : ∀ x ∈ g.op.opds, ev σ2 x = ev σ x := fun x hx => by
 cases x with
 | t n => exact Znk q hx
 | k a => rfl
theorem Zhh {g : G} (q : agG g σ σ2) : agOp g.op (strip σ) (strip σ2) := fun x hx => by
 cases x with
 | t n => simp only [ev, strip, Znk q hx]
 | k a => rfl
theorem Zog {a v : A} (e : opA true a = some v) : v = unT a := by
 unfold opA at e
 split at e
 · rename_i g b
   cases g with
   | true => simp [imp] at e; subst e; rfl
   | false => simp [imp] at e
 · rename_i hno
   simp only [Option.some.injEq] at e
   subst e
   unfold unT
   split
   · rename_i b; exact absurd rfl (hno true b)
   · rfl
theorem Z8z {x : Opd} {v : A} (hc : Wy x = true) (e : evp true σ x = some v) : v = ev (strip σ) x := by
 cases x with
 | t n => exact Zog e
 | k a =>
   have h := Zog e
   rw [h]
   cases a <;> first | rfl | (simp [Wy, clean] at hc)
theorem Zoo {f : Opd → Option A} : ∀ {xs : List Opd} {as : List A}, xs.mapM f = some as → ∀ a ∈ as, ∃ x ∈ xs, f x = some a
 | [], as, e, a, h => by simp at e; subst e; simp at h
 | x :: xs, as, e, a, h => by
   rw [List.mapM_cons] at e
   cases hv : f x with
   | none => rw [hv] at e; cases e
   | some v =>
     rw [hv] at e
     cases hvs : xs.mapM f with
     | none => simp [hvs] at e
     | some vs =>
       simp [hvs] at e
       subst e
       rcases List.mem_cons.1 h with rfl | h
       · exact ⟨x, by simp, hv⟩
       · obtain ⟨y, hy, e⟩ := Zoo hvs a h
         exact ⟨y, by simp [hy], e⟩
theorem Zo2 : ∀ {xs : List Opd} {cs : List A}, xs.all Wy = true → Z0u h (evs (strip σ) xs) = some cs → xs.mapM (fun x => evp true σ x) = some (evs (strip σ) xs)
 | [], cs, _, _ => rfl
 | x :: xs, cs, hc, e => by
   simp only [List.all_cons, Bool.and_eq_true] at hc
   obtain ⟨c, hcv, e1⟩ := Z3 e
   obtain ⟨cs', hcs, _⟩ := Z3 e1
   have one : evp true σ x = some (ev (strip σ) x) := by
    cases x with
    | t n =>
      simp only [ev, strip] at hcv ⊢
      simp only [evp, ev]
      cases ha : σ.s n with
      | ifg g b =>
        rw [ha] at hcv
        cases g with
        | true => simp [opA, imp, unT]
        | false => simp [unT, Z9t, W8] at hcv
      | _ => rfl
    | k a =>
      simp only [evp, ev]
      have := hc.1
      cases a <;> first | rfl | (simp [Wy, clean] at this)
   rw [List.mapM_cons, one, Zo2 hc.2 hcs]
   rfl
theorem Zcp {op : AOp} {σ1 : St} {pk pk2 : Bool → Opd → Option Bool} (hy : op.yields = none) (hcl : op.opds.all Wy = true) (hs : step E tot op (strip σ) = some σ1) (hn : Zu E σ.h (fun x => evp true σ x) pk op = none)
 (ha : ∀ x ∈ op.opds, evp true σ2 x = evp true σ x) (hsame : ∀ d nm w f xs, op = .call d nm w f xs → ∀ b ∈ Xa σ.h (evs (strip σ) xs), Same (σ.h b) (σ2.h b)) : Zu E σ2.h (fun x => evp true σ2 x) pk2 op = none := by
 cases op with
 | call d nm w f xs =>
   simp only [step, Z2d] at hs
   obtain ⟨cs, hcs, e1⟩ := Z3 hs
   obtain ⟨rs, hrs, _⟩ := Z3 e1
   have hcs' : Z0u σ.h (evs (strip σ) xs) = some cs := hcs
   have hm := Zo2 (h := σ.h) (xs := xs) hcl hcs'
   have hm2 : xs.mapM (fun x => evp true σ2 x) = some (evs (strip σ) xs) :=
    (Z93 (f := fun x => evp true σ x) (xs := xs) (fun x hx => ha x hx)).trans hm
   obtain ⟨q1, _⟩ := Z49 hcs' (hsame d nm w f xs rfl)
   have hn1 : bnd (bnd (bnd (xs.mapM (fun x => evp true σ x)) (Z0u σ.h)) (E.call f)) Zef = none := hn
   show bnd (bnd (bnd (xs.mapM (fun x => evp true σ2 x)) (Z0u σ2.h)) (E.call f)) Zef = none
   rw [hm] at hn1
   rw [hm2]
   simp only [bnd, hcs', q1, hrs] at hn1 ⊢
   exact hn1
 | bld d nm zs ps =>
   cases ps with
   | nil =>
     simp only [Zu] at hn ⊢
     exact hn
   | cons p ps => rfl
 | _ => first | rfl | (simp [AOp.yields] at hy)
theorem Z5j {g : G} (heasy : g.op.easy = true) (hcl : g.op.opds.all Wy = true) (hact : g.active σ) (e : Yc E tot g σ = some σ') :
 ∃ u F iv Md Rd, σ' = ⟨put σ.s g.op.dst u, F σ.h, σ.n, σ.base⟩ ∧ LocE (Yc E tot g) (agG g) σ g.op.dst u F iv Md Rd ∧ LocX (tauG g σ) g.op iv Md Rd := by
 cases g with
 | o op =>
   obtain ⟨u, F, iv, Md, Rd, h1, h2, h3⟩ := Zo4 (op := op) heasy e
   exact ⟨u, F, iv, Md, Rd, h1, ⟨h2.eq, h2.pw, h2.cls, h2.has, fun σ2 q => h2.move σ2 (Z4v q)⟩, h3.x⟩
 | g s w op =>
   simp only [G.op] at heasy hcl
   have ht : test σ s w = some true := hact
   have ht2 : ∀ σ2, agG (.g s w op) σ σ2 → test σ2 s w = some true := fun σ2 q => by
    unfold test at ht ⊢
    rw [q s (by simp [G.looks])]
    exact ht
   have hev : ∀ σ2, agG (.g s w op) σ σ2 → ∀ x ∈ op.opds, evp true σ2 x = evp true σ x := fun σ2 q x hx => by
    unfold evp
    rw [Z4v (g := .g s w op) q x hx]
   have hevq : ∀ σ2, agG (.g s w op) σ σ2 → ∀ r, ∀ x ∈ op.opds, evq (true && r) σ2 x = evq (true && r) σ x := fun σ2 q r x hx => by
    unfold evq
    rw [Z4v (g := .g s w op) q x hx]
   have e0 := e
   simp only [Yc, ht, X6] at e
   cases hy : op.yields with
   | some d =>
     rw [hy] at e
     simp only [Xt] at e
     have hd := (Z1h hy).1
     split at e
     · rename_i u hu
       simp only [Option.some.injEq] at e
       have hno : op.isCall = false := by cases op <;> first | rfl | (simp [AOp.yields] at hy)
       refine ⟨.ifg true u, fun h => h, noN, noN, _, by rw [← e]; simp only [G.op, hd], LocE.quiet (by rw [e0, ← e]; simp only [G.op, hd]) (Z61 hu) (fun σ2 h1 h2 h3 h4 => ?_),
        ⟨fun b h => h.elim, fun b hb => .inr (Zsf (τ := strip σ) (h := σ.h) rfl (fun x hx v hv => Z8z (List.all_eq_true.1 hcl x hx) hv) hno b hb), fun b h => h.elim⟩⟩
       obtain ⟨q1, _⟩ := Z1g (get' := fun x => evp true σ2 x) (pk' := fun q x => evq (true && q) σ2 x) hu (hev σ2 h1) (hevq σ2 h1) h4
       simp only [Yc, ht2 σ2 h1, X6, hy, q1, Xt]
       simp only [G.op, hd]
     · cases e
   | none =>
     rw [hy] at e
     simp only [Xc] at e
     split at e
     · rename_i u hu
       simp only [Option.some.injEq] at e
       refine ⟨.ifg true u, fun h => h, noN, noN, _, by rw [← e]; rfl, LocE.quiet (by rw [e0, ← e]; rfl) (Z61 hu) (fun σ2 h1 h2 h3 h4 => ?_), ⟨fun b h => h.elim, fun b hb => ?_, fun b h => h.elim⟩⟩
       · obtain ⟨q1, _⟩ := Z1g (get' := fun x => evp true σ2 x) (pk' := fun q x => evq (true && q) σ2 x) hu (hev σ2 h1) (hevq σ2 h1) h4
         simp only [Yc, ht2 σ2 h1, X6, hy, q1, Xc]; rfl
       · cases hc : op.isCall with
         | false => exact .inr (Zsf (τ := strip σ) (h := σ.h) rfl (fun x hx v hv => Z8z (List.all_eq_true.1 hcl x hx) hv) hc b hb)
         | true =>
           refine .inl ⟨hc, ?_⟩
           cases op with
           | call d nm wd f xs =>
             simp only [rdV] at hb
             split at hb
             · rename_i as has
               obtain ⟨a, ha, hr⟩ := Z6d hb
               obtain ⟨x, hx, he⟩ := Zoo has a ha
               have hcx : Wy x = true := List.all_eq_true.1 hcl x hx
               have hst := Z8z hcx he
               subst hst
               exact ⟨x, hx, hr⟩
             · simp at hb
           | callv d nm wd y xs => simp [rdV] at hb
           | callx d nm wd f xs => simp [rdV] at hb
           | _ => simp [AOp.isCall] at hc
     · rename_i hnone
       simp only [cond_true] at e
       obtain ⟨σ1, hs1, e2⟩ := Z3 e
       obtain ⟨u, F, iv, Md, Rd, h1, h2, h3⟩ := Zo4 (op := op) heasy hs1
       have hback : ∀ τ : St, back τ op.dst ⟨put (strip τ).s op.dst u, F τ.h, τ.n, τ.base⟩ = some ⟨put τ.s op.dst u, F τ.h, τ.n, τ.base⟩ := fun τ => by
        unfold back
        cases op.dst with
        | none => rfl
        | some d => simp [put, Z7]
       have he : σ' = ⟨put σ.s op.dst u, F σ.h, σ.n, σ.base⟩ := by
        rw [h1] at e2
        have := hback σ
        have hh : (strip σ).h = σ.h := rfl
        rw [hh] at e2
        rw [show (strip σ).n = σ.n from rfl, show (strip σ).base = σ.base from rfl, this] at e2
        simp only [Option.some.injEq] at e2
        exact e2.symm
       refine ⟨u, F, iv, Md, Rd, he, ⟨by rw [e0, he]; rfl, h2.pw, h2.cls, h2.has, fun σ2 q1 q2 q3 q4 q5 => ?_⟩, h3.x⟩
       have hmv := h2.move (strip σ2) (Zhh (g := .g s w op) q1) q2 q3 q4 q5
       have hn2 : Zu E σ2.h (fun x => evp true σ2 x) (fun r x => evq (true && r) σ2 x) op = none := by
        refine Zcp hy hcl hs1 hnone (hev σ2 q1) (fun d nm wd f xs hop b hb => ?_)
        subst hop
        exact q4 b (h3.call d nm wd f xs rfl b hb)
       simp only [Yc, ht2 σ2 q1, X6, hy, hn2, Xc, cond_true]
       rw [hmv]
       exact hback σ2
end Go.Vm
set_option linter.unusedVariables false
set_option linter.unusedSimpArgs false
namespace Go.Vm
open Go.RowKit
variable {h : Hp} {σ σ' σ1 σ2 : St} {E : Env} {tot : Nat}
def junk (u : A) : Prop := u = .und ∨ ∃ a, u = .ifg false a
inductive Does (E : Env) (tot : Nat) : G → St → St → Prop
 | run {g : G} {σ σ' : St} (h : g.active σ) (e : Yc E tot g σ = some σ') : Does E tot g σ σ'
 | skip {s : Nat} {w : Bool} {op : AOp} {σ : St} {u : A} (h : test σ s w = some false) (hu : junk u) : Does E tot (.g s w op) σ ⟨put σ.s op.dst u, σ.h, σ.n, σ.base⟩
theorem Zq4 {g : G} (e : Yc E tot g σ = some σ') : Does E tot g σ σ' := by
 cases g with
 | o op => exact .run trivial e
 | g s w op =>
   have e0 := e
   obtain ⟨t, ht, e1⟩ := Z3 e
   cases t with
   | true => exact .run ht e0
   | false =>
     split at e1
     · rename_i d hy
       rw [← (Z1h hy).1] at e1
       unfold Xt at e1
       split at e1
       · simp only [Option.some.injEq] at e1; subst e1; exact .skip ht (.inr ⟨_, rfl⟩)
       · simp only [cond_false, Option.some.injEq] at e1; subst e1; exact .skip ht (.inl rfl)
     · unfold Xc at e1
       split at e1
       · simp only [Option.some.injEq] at e1; subst e1; exact .skip ht (.inr ⟨_, rfl⟩)
       · simp only [cond_false, Option.some.injEq] at e1; subst e1; exact .skip ht (.inl rfl)
def AOp.light : AOp → Bool
 | .mv _ _ | .pick _ _ _ _ | .bin _ _ _ _ | .eqs _ _ _ _ _ | .beq _ _ _ _ | .un _ _ _ | .cv _ _ _ | .fa _ _ _ | .fld _ _ _ _ _ | .ia _ _ _ _ | .ix _ _ _ | .ex _ _ _ | .len _ _ _ | .mnx _ _ _ _ | .nl _ _ | .sl _ _ _ _ _ _ | .mkf _ _ _ | .bll _ _ _ _ => true
 | _ => false
theorem Zon {op : AOp} (hl : op.light = true) (h : Hp) (get : Opd → Option A) : rdV h get op = [] := by
 cases op <;> first | rfl | (simp [AOp.light] at hl)
theorem Zey {op : AOp} (hl : op.light = true) (e : step E tot op σ = some σ') : ∃ u, σ' = ⟨put σ.s op.dst u, σ.h, σ.n, σ.base⟩ ∧ ∀ σ2, agOp op σ σ2 → step E tot op σ2 = some ⟨put σ2.s op.dst u, σ2.h, σ2.n, σ2.base⟩ := by
 cases op with
 | mkf d f caps =>
   simp only [step] at e
   split at e
   · rename_i hc
     simp only [Option.some.injEq] at e
     refine ⟨.fn f (evs σ caps), e.symm, fun σ2 h1 => ?_⟩
     simp only [step, Z1a (σ := σ) (xs := caps) (fun y hy => h1 y hy)]
     rw [if_pos hc]; rfl
   · cases e
 | bll d ty n xs =>
   simp only [step] at e
   obtain ⟨rows, hrows, e1⟩ := Z3 e
   simp only [Option.some.injEq] at e1
   refine ⟨.lit ty rows, e1.symm, fun σ2 h1 => ?_⟩
   have q : Z3o σ2 n xs = some rows := by rw [← hrows]; exact Z74 (fun y hy => h1 y (by simpa [AOp.opds] using hy))
   simp only [step, q, bnd]; rfl
 | sl d t x lo hi mx =>
   simp only [step] at e
   obtain ⟨u, hu, e1⟩ := Z3 e
   simp only [Option.some.injEq] at e1
   refine ⟨u, e1.symm, fun σ2 h1 => ?_⟩
   have hm : ∀ y, y ∈ lo.toList ∨ y ∈ hi.toList ∨ y ∈ mx.toList → ev σ2 y = ev σ y := fun y hy => h1 y (by
    simp only [AOp.opds, List.mem_cons, List.mem_append]
    rcases hy with hy | hy | hy
    · exact .inr (.inl (.inl hy))
    · exact .inr (.inl (.inr hy))
    · exact .inr (.inr hy))
   simp only [step, h1 x (by simp [AOp.opds])]
   rw [Zbt (σ := σ) (fun y hy => hm y (.inl hy)) (fun y hy => hm y (.inr (.inl hy))) (fun y hy => hm y (.inr (.inr hy))), hu]; rfl
 | _ =>
   first
   | (simp [AOp.light] at hl; done)
   | (simp only [step, AOp.yields, X6] at e
      obtain ⟨u, hu, e1⟩ := Z3 e
      simp only [Option.some.injEq] at e1
      refine ⟨u, e1.symm, fun σ2 h1 => ?_⟩
      obtain ⟨q1, _⟩ := Z1g (h' := σ2.h) (get' := fun x => some (ev σ2 x)) (pk' := fun q x => evq q σ2 x) hu (fun x hx => by rw [h1 x hx]) (fun q x hx => by simp only [evq, h1 x hx]) (fun b hb => by rw [Zon rfl] at hb; simp at hb)
      simp only [step, AOp.yields, X6]
      rw [q1]; rfl)
theorem Z7b {g : G} (hl : g.op.light = true) (hact : g.active σ) (e : Yc E tot g σ = some σ') :
 ∃ u, σ' = ⟨put σ.s g.op.dst u, σ.h, σ.n, σ.base⟩ ∧ ∀ σ2, agG g σ σ2 → Yc E tot g σ2 = some ⟨put σ2.s g.op.dst u, σ2.h, σ2.n, σ2.base⟩ := by
 cases g with
 | o op =>
   obtain ⟨u, h1, h2⟩ := Zey (op := op) hl e
   exact ⟨u, h1, fun σ2 q => h2 σ2 (Z4v q)⟩
 | g s w op =>
   simp only [G.op] at hl
   have ht : test σ s w = some true := hact
   have ht2 : ∀ σ2, agG (.g s w op) σ σ2 → test σ2 s w = some true := fun σ2 q => by
    unfold test at ht ⊢
    rw [q s (by simp [G.looks])]
    exact ht
   have e0 := e
   simp only [Yc, ht, X6] at e
   cases hy : op.yields with
   | some d =>
     rw [hy] at e
     simp only [Xt] at e
     have hd := (Z1h hy).1
     split at e
     · rename_i u hu
       simp only [Option.some.injEq] at e
       refine ⟨.ifg true u, by rw [← e]; simp only [G.op, hd], fun σ2 q => ?_⟩
       obtain ⟨q1, _⟩ := Z1g (h' := σ2.h) (get' := fun x => evp true σ2 x) (pk' := fun q x => evq (true && q) σ2 x) hu (fun x hx => by unfold evp; rw [Z4v (g := .g s w op) q x hx]) (fun r x hx => by unfold evq; rw [Z4v (g := .g s w op) q x hx]) (fun b hb => by rw [Zon hl] at hb; simp at hb)
       simp only [Yc, ht2 σ2 q, X6, hy, q1, Xt]
       simp only [G.op, hd]
     · cases e
   | none =>
     rw [hy] at e
     have hv : ∀ (τ : St), Zu E τ.h (fun x => evp true τ x) (fun q x => evq (true && q) τ x) op = none := fun τ => by
      cases op <;> first | rfl | (simp [AOp.light] at hl; done) | (simp [AOp.yields] at hy)
     simp only [Xc, hv, cond_true] at e
     obtain ⟨σ1, hs1, e2⟩ := Z3 e
     obtain ⟨u, h1, h2⟩ := Zey (op := op) hl hs1
     have hback : ∀ τ : St, back τ op.dst ⟨put (strip τ).s op.dst u, τ.h, τ.n, τ.base⟩ = some ⟨put τ.s op.dst u, τ.h, τ.n, τ.base⟩ := fun τ => by
      unfold back
      cases op.dst with
      | none => rfl
      | some d => simp [put, Z7]
     have he : σ' = ⟨put σ.s op.dst u, σ.h, σ.n, σ.base⟩ := by
      rw [h1] at e2
      rw [show (strip σ).h = σ.h from rfl, show (strip σ).n = σ.n from rfl, show (strip σ).base = σ.base from rfl, hback σ] at e2
      simp only [Option.some.injEq] at e2
      exact e2.symm
     refine ⟨u, he, fun σ2 q => ?_⟩
     have hmv := h2 (strip σ2) (Zhh (g := .g s w op) q)
     simp only [Yc, ht2 σ2 q, X6, hy, Xc, hv, cond_true]
     rw [hmv]
     exact hback σ2
theorem Zc2 {op : AOp} (h : op.quiet = true) : op.names = (0, 0) ∧ op.mdOpds = [] ∧ op.isCall = false ∧ op.easy = true ∧ (∃ d, op.yields = some d) := by
 cases op <;> simp [AOp.quiet] at h <;> exact ⟨rfl, rfl, rfl, rfl, _, rfl⟩
theorem Z7f {g : G} (hq : g.op.quiet = true) (hcl : g.op.opds.all Wy = true) (hact : g.active σ) (e : Yc E tot g σ = some σ') :
 ∃ u, σ' = ⟨put σ.s g.op.dst u, σ.h, σ.n, σ.base⟩ ∧ ∀ σ2, agG g σ σ2 → (∀ x ∈ g.op.rdOpds, ∀ b ∈ nmX (ev (tauG g σ) x), σ2.h b = σ.h b) → Yc E tot g σ2 = some ⟨put σ2.s g.op.dst u, σ2.h, σ2.n, σ2.base⟩ := by
 obtain ⟨_, _, hno, _, d, hy⟩ := Zc2 hq
 have hd := (Z1h hy).1
 cases g with
 | o op =>
   simp only [G.op] at hq hcl hno hy hd
   have e1 : bnd (Zu E σ.h (fun x => some (ev σ x)) (fun q x => evq q σ x) op) (fun a => some ({ σ with s := put σ.s d a } : St)) = some σ' := by
    rw [← e]
    cases op <;> simp [AOp.quiet] at hq <;> (simp only [AOp.yields, Option.some.injEq] at hy; subst hy; rfl)
   obtain ⟨u, hu, e2⟩ := Z3 e1
   simp only [Option.some.injEq] at e2
   refine ⟨u, by rw [← e2]; simp only [G.op, hd], fun σ2 q hk => ?_⟩
   obtain ⟨q1, _⟩ := Z1g (h' := σ2.h) (get' := fun x => some (ev σ2 x)) (pk' := fun q x => evq q σ2 x) hu (fun x hx => by rw [Z4v (g := .o op) q x hx]) (fun r x hx => by unfold evq; rw [Z4v (g := .o op) q x hx]) (fun b hb => by
    obtain ⟨x, hx, hbx⟩ := Zsf (τ := σ) (h := σ.h) (get := fun x => some (ev σ x)) rfl (fun x _ v hv => by simp only [Option.some.injEq] at hv; exact hv.symm) hno b hb
    have hs := hk x hx b hbx
    rw [hs]
    exact Same.refl (Z61 hu b hb))
   have : Yc E tot (.o op) σ2 = bnd (Zu E σ2.h (fun x => some (ev σ2 x)) (fun q x => evq q σ2 x) op) (fun a => some ({ σ2 with s := put σ2.s d a } : St)) := by
    cases op <;> simp [AOp.quiet] at hq <;> (simp only [AOp.yields, Option.some.injEq] at hy; subst hy; rfl)
   rw [this, q1]
   simp only [bnd, G.op, hd]
 | g s w op =>
   simp only [G.op] at hq hcl hno hy hd
   have ht : test σ s w = some true := hact
   have ht2 : ∀ σ2, agG (.g s w op) σ σ2 → test σ2 s w = some true := fun σ2 q => by
    unfold test at ht ⊢
    rw [q s (by simp [G.looks])]
    exact ht
   simp only [Yc, ht, X6, hy, Xt] at e
   split at e
   · rename_i u hu
     simp only [Option.some.injEq] at e
     refine ⟨.ifg true u, by rw [← e]; simp only [G.op, hd], fun σ2 q hk => ?_⟩
     obtain ⟨q1, _⟩ := Z1g (h' := σ2.h) (get' := fun x => evp true σ2 x) (pk' := fun q x => evq (true && q) σ2 x) hu (fun x hx => by unfold evp; rw [Z4v (g := .g s w op) q x hx]) (fun r x hx => by unfold evq; rw [Z4v (g := .g s w op) q x hx]) (fun b hb => by
      obtain ⟨x, hx, hbx⟩ := Zsf (τ := strip σ) (h := σ.h) rfl (fun x hx v hv => Z8z (List.all_eq_true.1 hcl x hx) hv) hno b hb
      have hs := hk x hx b hbx
      rw [hs]
      exact Same.refl (Z61 hu b hb))
     simp only [Yc, ht2 σ2 q, X6, hy, q1, Xt]
     simp only [G.op, hd]
   · cases e
theorem Zpg {bx : Bool} {d nm t : Nat} {ys : List (List A)} {sv : A} {σ σ' : St} (e : appG bx σ d nm t ys sv = some σ') :
 ∃ u, σ' = ⟨put σ.s (some d) u, σ'.h, σ'.n, σ.base⟩ ∧ ∀ σ2 : St, σ2.h = σ.h → σ2.n = σ.n → σ2.base = σ.base → appG bx σ2 d nm t ys sv = some ⟨put σ2.s (some d) u, σ'.h, σ'.n, σ2.base⟩ := by
 unfold appG at e
 split at e
 · rename_i ty b len cap ex
   obtain ⟨k, hk, e1⟩ := Z3 e
   split at e1
   · rename_i hc
     split at e1
     · rename_i hcap
       simp only [Option.some.injEq] at e1
       subst e1
       refine ⟨_, rfl, fun σ2 h2 h3 h4 => ?_⟩
       simp only [appG, h2, h3, hk, bnd]
       rw [if_pos hc, if_pos hcap]; rfl
     · rename_i hcap
       split at e1
       · rename_i hle
         simp only [Option.some.injEq] at e1
         subst e1
         refine ⟨_, rfl, fun σ2 h2 h3 h4 => ?_⟩
         simp only [appG, h2, h3, hk, bnd]
         rw [if_pos hc, if_neg hcap, if_pos hle]; rfl
       · cases e1
   · cases e1
 · cases e
theorem Zl5 {op : AOp} (hh : op.easy = false) (e : step E tot op σ = some σ') : ∃ u, σ' = ⟨put σ.s op.dst u, σ'.h, σ'.n, σ.base⟩ ∧ ∀ σ2, agOp op σ σ2 → σ2.h = σ.h → σ2.n = σ.n → σ2.base = σ.base → step E tot op σ2 = some ⟨put σ2.s op.dst u, σ'.h, σ'.n, σ2.base⟩ := by
 cases op with
 | stn nm ty p =>
   simp only [step] at e
   obtain ⟨hh', hst, e1⟩ := Z3 e
   simp only [Option.some.injEq] at e1
   subst e1
   refine ⟨.und, rfl, fun σ2 h1 h2 h3 h4 => ?_⟩
   simp only [step, h1 p (by simp [AOp.opds]), h2, h3, h4, hst, bnd]; rfl
 | clr t zs x =>
   simp only [step] at e
   have e0 := e
   unfold clrA at e
   split at e
   · rename_i ty b off len cap ex hx
     obtain ⟨k, hk, e1⟩ := Z3 e
     split at e1
     · rename_i hc
       simp only [Option.some.injEq] at e1
       subst e1
       refine ⟨.und, rfl, fun σ2 h1 h2 h3 h4 => ?_⟩
       simp only [step, h1 x (by simp [AOp.opds]), hx, clrA, h2, hk, bnd]
       rw [if_pos hc, h3, h4]; rfl
     · cases e1
   · cases e
 | dcall d f xs =>
   simp only [step, doDc] at e
   obtain ⟨r, hr, e1⟩ := Z3 e
   simp only [Option.some.injEq] at e1
   subst e1
   refine ⟨pack r.1, rfl, fun σ2 h1 h2 h3 h4 => ?_⟩
   simp only [step, doDc, Z1a (σ := σ) (xs := xs) (fun y hy => h1 y (by simpa [AOp.opds] using hy)), h2, h3, h4, hr, bnd]; rfl
 | dcf d f xs =>
   simp only [step, Zmb] at e
   obtain ⟨r, hr, e1⟩ := Z3 e
   split at e1
   · rename_i hq
     simp only [Option.some.injEq] at e1
     subst e1
     refine ⟨pack r.1, rfl, fun σ2 h1 h2 h3 h4 => ?_⟩
     simp only [step, Zmb, Z1a (σ := σ) (xs := xs) (fun y hy => h1 y (by simpa [AOp.opds] using hy)), h3, h2, hr, bnd]
     rw [if_pos (by first | exact hq | (rw [h4]; exact hq) | (rw [h4, h2]; exact hq)), h4]; rfl
   · cases e1
 | apb d nm t s x =>
   simp only [step] at e
   obtain ⟨ys, hys, e1⟩ := Z3 e
   obtain ⟨u, hu⟩ := Zpg e1
   refine ⟨u, hu.1, fun σ2 h1 h2 h3 h4 => ?_⟩
   simp only [step, h1 s (by simp [AOp.opds]), h1 x (by simp [AOp.opds]), h2, hys, bnd]
   exact hu.2 σ2 h2 h3 h4
 | callx d nm w f xs =>
   simp only [step, Z2q] at e
   obtain ⟨p, hp, e1⟩ := Z3 e
   obtain ⟨rs, hrs, e2⟩ := Z3 e1
   split at e2
   · cases e2
   · rename_i hw
     simp only [Option.some.injEq] at e2
     subst e2
     refine ⟨_, rfl, fun σ2 h1 h2 h3 h4 => ?_⟩
     simp only [step, Z2q, Z1a (σ := σ) (xs := xs) (fun y hy => h1 y (by simpa [AOp.opds] using hy)), h2, h3, h4, hp, hrs, bnd]
     rw [if_neg hw]; rfl
 | dcs d f xs =>
   simp only [step, Zmj] at e
   obtain ⟨r, hr, e1⟩ := Z3 e
   obtain ⟨p, hp, e2⟩ := Z3 e1
   simp only [Option.some.injEq] at e2
   subst e2
   refine ⟨pack p.1, rfl, fun σ2 h1 h2 h3 h4 => ?_⟩
   simp only [step, Zmj, Z1a (σ := σ) (xs := xs) (fun y hy => h1 y (by simpa [AOp.opds] using hy)), h2, h3, h4, hr, hp, bnd]; rfl
 | dcallv d y xs =>
   simp only [step, doDc] at e
   obtain ⟨p, hp, e0⟩ := Z3 e
   obtain ⟨r, hr, e1⟩ := Z3 e0
   simp only [Option.some.injEq] at e1
   subst e1
   refine ⟨pack r.1, rfl, fun σ2 h1 h2 h3 h4 => ?_⟩
   simp only [step, doDc, Z1a (σ := σ) (xs := xs) (fun z hz => h1 z (by simp [AOp.opds, hz])), h1 y (by simp [AOp.opds]), h2, h3, h4, hp, hr, bnd]; rfl
 | no why => simp [step, AOp.yields, bnd] at e
 | _ => simp [AOp.easy] at hh
theorem Z1o {g : G} (hcl : g.op.opds.all Wy = true) (hact : g.active σ) (e : Yc E tot g σ = some σ') :
 ∃ u, σ' = ⟨put σ.s g.op.dst u, σ'.h, σ'.n, σ.base⟩ ∧ ∀ σ2, agG g σ σ2 → σ2.h = σ.h → σ2.n = σ.n → σ2.base = σ.base → Yc E tot g σ2 = some ⟨put σ2.s g.op.dst u, σ'.h, σ'.n, σ2.base⟩ := by
 cases heasy : g.op.easy with
 | true =>
   obtain ⟨u, F, iv, Md, Rd, h1, h2, _⟩ := Z5j heasy hcl hact e
   refine ⟨u, by rw [h1], fun σ2 q1 q2 q3 q4 => ?_⟩
   rw [h2.move σ2 q1 q3 q4 (fun b hb => by rw [q2]; exact Same.refl (h2.has b (.inl hb))) (fun b _ => by rw [q2]), h1, q2, q3]
 | false =>
   cases g with
   | o op =>
     obtain ⟨u, h1, h2⟩ := Zl5 (op := op) heasy e
     exact ⟨u, h1, fun σ2 q => h2 σ2 (Z4v q)⟩
   | g s w op =>
     simp only [G.op] at heasy hcl
     have ht : test σ s w = some true := hact
     have ht2 : ∀ σ2, agG (.g s w op) σ σ2 → test σ2 s w = some true := fun σ2 q => by
      unfold test at ht ⊢
      rw [q s (by simp [G.looks])]
      exact ht
     have hy : op.yields = none := by cases op <;> first | rfl | (simp [AOp.easy] at heasy)
     have hv : ∀ (τ : St), Zu E τ.h (fun x => evp true τ x) (fun q x => evq (true && q) τ x) op = none := fun τ => by
      cases op <;> first | rfl | (simp [AOp.easy] at heasy)
     simp only [Yc, ht, X6, hy, Xc, hv, cond_true] at e
     obtain ⟨σ1, hs1, e2⟩ := Z3 e
     obtain ⟨u, h1, h2⟩ := Zl5 (op := op) heasy hs1
     have hback : ∀ (τ : St) (hh : Hp) (m : Nat), back τ op.dst ⟨put (strip τ).s op.dst u, hh, m, τ.base⟩ = some ⟨put τ.s op.dst u, hh, m, τ.base⟩ := fun τ hh m => by
      unfold back
      cases op.dst with
      | none => rfl
      | some d => simp [put, Z7]
     have he : σ' = ⟨put σ.s op.dst u, σ1.h, σ1.n, σ.base⟩ := by
      rw [h1] at e2
      rw [show (strip σ).base = σ.base from rfl, hback σ] at e2
      simp only [Option.some.injEq] at e2
      exact e2.symm
     refine ⟨u, by rw [he]; rfl, fun σ2 q1 q2 q3 q4 => ?_⟩
     have hmv := h2 (strip σ2) (Zhh (g := .g s w op) q1) q2 q3 q4
     simp only [Yc, ht2 σ2 q1, X6, hy, Xc, hv, cond_true]
     rw [hmv, he]
     exact hback σ2 _ _
end Go.Vm
set_option linter.unusedVariables false
set_option linter.unusedSimpArgs false
namespace Go.Vm
open Go.RowKit
variable {h : Hp} {σ σ' σ1 σ2 : St} {E : Env} {tot : Nat}
def Z1n (x y : G) : Bool :=
 (match x.op.dst with
  | some d => !y.looks.contains d && y.op.dst != some d
  | none => true) &&
 (match y.op.dst with
  | some d => !x.looks.contains d
  | none => true)
theorem Wq {x y : G} (e : Z1n x y = true) : (∀ d, x.op.dst = some d → d ∉ y.looks) ∧ (∀ d, x.op.dst = some d → y.op.dst ≠ some d) ∧ (∀ d, y.op.dst = some d → d ∉ x.looks) := by
 refine ⟨fun d hd => ?_, fun d hd => ?_, fun d hd => ?_⟩ <;> simp [Z1n, hd] at e
 · exact e.1.1
 · exact e.1.2
 · exact e.2
theorem Zxy {s : Nat → A} {d : Option Nat} {u : A} {t : Nat} (h : ∀ k, d = some k → k ≠ t) : put s d u t = s t := by
 cases d with
 | none => rfl
 | some k => simp only [put, Z7]; rw [if_neg (fun q => h k rfl q.symm)]
theorem Z3b {s : Nat → A} {d d' : Option Nat} {u u' : A} (h : ∀ k, d = some k → d' ≠ some k) : put (put s d u) d' u' = put (put s d' u') d u := by
 cases d with
 | none => rfl
 | some k =>
   cases d' with
   | none => rfl
   | some k' =>
     have hne : k ≠ k' := fun q => h k rfl (by rw [q])
     funext t
     simp only [put, Z7]
     by_cases h1 : t = k <;> by_cases h2 : t = k'
     · exact absurd (h1.symm.trans h2) hne
     · simp [h1, hne]
     · simp [h2, hne.symm]
     · simp [h1, h2]
structure Kn (K : Nat → Prop) (gi : G) (σ : St) : Prop where
 ops : ∀ x ∈ gi.op.opds, ∀ b, b ∈ nmX (ev (tauG gi σ) x) ∨ b ∈ nmP (ev (tauG gi σ) x) → K b
 rows : gi.op.isCall = true → ∀ c, K c → ∀ k, σ.h c = some k → ∀ row ∈ k.rows, ∀ b ∈ Zi row, K b
 new : ∀ b, span (σ.n + gi.op.names.1) gi.op.names.2 b → σ.h b = none
structure Pair (K : Nat → Prop) (gj gi : G) (σ : St) : Prop where
 slots : Z1n gj gi = true
 spanK : ∀ b, span (σ.n + gj.op.names.1) gj.op.names.2 b → ¬ K b
 spans : ∀ b, span (σ.n + gj.op.names.1) gj.op.names.2 b → ¬ span (σ.n + gi.op.names.1) gi.op.names.2 b
 one : gj.op.mdOpds = [] ∨ gi.op.mdOpds = []
 callJ : gi.op.mdOpds = [] ∨ gj.op.isCall = false
 callI : gj.op.mdOpds = [] ∨ gi.op.isCall = false
 sepJ : ∀ x ∈ gj.op.rdOpds, ∀ y ∈ gi.op.mdOpds, ∀ b, b ∈ nmX (ev (tauG gj σ) x) → b ∈ nmIn (ev (tauG gi σ) y) → False
 sepI : ∀ x ∈ gi.op.rdOpds, ∀ y ∈ gj.op.mdOpds, ∀ b, b ∈ nmX (ev (tauG gi σ) x) → b ∈ nmIn (ev (tauG gj σ) y) → False
theorem Vo {op : AOp} : ∀ x ∈ op.rdOpds, x ∈ op.opds := by
 intro x hx
 cases op <;> simp [AOp.rdOpds] at hx <;> simp [AOp.opds, hx]
theorem Z1j {op : AOp} : ∀ x ∈ op.mdOpds, x ∈ op.opds := by
 intro x hx
 cases op <;> simp [AOp.mdOpds] at hx <;> simp [AOp.opds, hx]
theorem Zp0 {g : G} {σ2 : St} (q : agG g σ σ2) : ∀ x ∈ g.op.opds, ev (tauG g σ2) x = ev (tauG g σ) x := by
 cases g with
 | o op => exact Z4v q
 | g s w op => exact Zhh q
theorem Y0w (g : G) (σ : St) : (tauG g σ).h = σ.h ∧ (tauG g σ).n = σ.n := by cases g <;> exact ⟨rfl, rfl⟩
theorem Vk {g : G} {σ2 : St} (q : agG g σ σ2) (h : g.active σ) : g.active σ2 := by
 cases g with
 | o op => trivial
 | g s w op =>
   show test σ2 s w = some true
   have h : test σ s w = some true := h
   unfold test at h ⊢
   rw [q s (by simp [G.looks])]
   exact h
theorem Z10 {gi : G} {d : Option Nat} {u : A} {hh : Hp} {n b : Nat} (hd : ∀ k, d = some k → k ∉ gi.looks) : agG gi σ ⟨put σ.s d u, hh, n, b⟩ := fun t ht => by
 show put σ.s d u t = σ.s t
 exact Zxy (fun k hk q => hd k hk (q ▸ ht))
theorem Z11 {g : G} (q : agG g σ σ2) : agG g σ2 σ := fun t ht => (q t ht).symm
theorem Zpy {op : AOp} (h : op.light = true) : op.names.2 = 0 ∧ op.rdOpds = [] ∧ op.mdOpds = [] ∧ op.isCall = false ∧ op.easy = true := by
 cases op <;> simp [AOp.light] at h <;> exact ⟨rfl, rfl, rfl, rfl, rfl⟩
theorem Zv1 {K : Nat → Prop} {gi gj : G} (ei : gi.op.easy = true) (ej : gj.op.easy = true) (ci : gi.op.opds.all Wy = true) (cj : gj.op.opds.all Wy = true) (kn : Kn K gi σ) (pr : Pair K gj gi σ)
 (aj : gj.active σ) (hj : Yc E tot gj σ = some σ1) (ai : gi.active σ1) (hi : Yc E tot gi σ1 = some σ2) :
 ∃ σ', gi.active σ ∧ Yc E tot gi σ = some σ' ∧ gj.active σ' ∧ Yc E tot gj σ' = some σ2 ∧ σ1.n = σ.n ∧ (∀ c k, K c → gj.op.mdOpds = [] → σ1.h c = some k → ∃ k', σ.h c = some k' ∧ k'.rows = k.rows) ∧ (∀ b, span (σ.n + gi.op.names.1) gi.op.names.2 b → σ1.h b = none) := by
 obtain ⟨s1, s2, s3⟩ := Wq pr.slots
 obtain ⟨uj, Fj, ivj, Mdj, Rdj, rfl, Lj, Xj⟩ := Z5j ej cj aj hj
 have agi : agG gi σ ⟨put σ.s gj.op.dst uj, Fj σ.h, σ.n, σ.base⟩ := Z10 s1
 obtain ⟨ui, Fi, ivi, Mdi, Rdi, rfl, Li, Xi⟩ := Z5j ei ci ai hi
 have hev := Zp0 agi
 obtain ⟨th, tn⟩ := Y0w gi ⟨put σ.s gj.op.dst uj, Fj σ.h, σ.n, σ.base⟩
 obtain ⟨thj, tnj⟩ := Y0w gj σ
 have ivJ : ∀ b, ivj b → span (σ.n + gj.op.names.1) gj.op.names.2 b := fun b hb => by have := Xj.ivs b hb; rwa [tnj] at this
 have ivI : ∀ b, ivi b → span (σ.n + gi.op.names.1) gi.op.names.2 b := fun b hb => by have := Xi.ivs b hb; rwa [tn] at this
 have known_rows : ∀ c k, K c → (∀ b, ¬ Mdj b) → Fj σ.h c = some k → ∃ k', σ.h c = some k' ∧ k'.rows = k.rows := by
  intro c k hc hm hk
  rcases Lj.cls c with h | h | h | ⟨h1, h2⟩
  · exact absurd hc (pr.spanK c (ivJ c h))
  · exact absurd h (hm c)
  · rw [h] at hk; exact ⟨k, hk, rfl⟩
  · rw [h2] at hk
    cases hs : σ.h c with
    | none => rw [hs] at hk; cases hk
    | some k0 => rw [hs] at hk; simp only [frz1, Option.map_some, Option.some.injEq] at hk; subst hk; exact ⟨k0, rfl, rfl⟩
 have mdJnone : gj.op.mdOpds = [] → ∀ b, ¬ Mdj b := fun h b hb => by
  obtain ⟨y, hy, _⟩ := Xj.mdx b hb
  rw [h] at hy; simp at hy
 have mdInone : gi.op.mdOpds = [] → ∀ b, ¬ Mdi b := fun h b hb => by
  obtain ⟨y, hy, _⟩ := Xi.mdx b hb
  rw [h] at hy; simp at hy
 have knI : ∀ b, b ∈ Rdi ∨ Mdi b → K b := by
  intro b hb
  rcases hb with hb | hb
  · rcases Xi.rdx b hb with ⟨hc, x, hx, hr⟩ | ⟨x, hx, hr⟩
    · rw [hev x hx] at hr
      obtain ⟨c, hc', hr⟩ := hr
      have hmd : gj.op.mdOpds = [] := by
       rcases pr.callI with h | h
       · exact h
       · rw [hc] at h; cases h
      have cl : ∀ {c d : Nat}, Rt (tauG gi ⟨put σ.s gj.op.dst uj, Fj σ.h, σ.n, σ.base⟩).h c d → K c → K d := by
       intro c d t
       induction t with
       | refl => exact id
       | step hk hrow hb' _ ih =>
         intro hkc
         rw [th] at hk
         obtain ⟨k', hk', hr'⟩ := known_rows _ _ hkc (mdJnone hmd) hk
         exact ih (kn.rows hc _ hkc k' hk' _ (by rw [hr']; exact hrow) _ hb')
      exact cl hr (kn.ops x hx c hc')
    · rw [hev x (Vo x hx)] at hr
      exact kn.ops x (Vo x hx) b (.inl hr)
  · obtain ⟨y, hy, hr⟩ := Xi.mdx b hb
    rw [hev y (Z1j y hy)] at hr
    exact kn.ops y (Z1j y hy) b (.inl (by simp [nmX, hr]))
 have mdJ_rdI : ∀ b, Mdj b → b ∈ Rdi → False := fun b h1 h2 => by
  obtain ⟨y, hy, hr⟩ := Xj.mdx b h1
  have hm : gj.op.mdOpds ≠ [] := fun q => by rw [q] at hy; simp at hy
  have hci : gi.op.isCall = false := pr.callI.resolve_left hm
  rcases Xi.rdx b h2 with ⟨hc, _⟩ | ⟨x, hx, hr2⟩
  · rw [hci] at hc; cases hc
  · rw [hev x (Vo x hx)] at hr2
    exact pr.sepI x hx y hy b hr2 hr
 have mdI_rdJ : ∀ b, Mdi b → b ∈ Rdj → False := fun b h1 h2 => by
  obtain ⟨y, hy, hr⟩ := Xi.mdx b h1
  rw [hev y (Z1j y hy)] at hr
  have hm : gi.op.mdOpds ≠ [] := fun q => by rw [q] at hy; simp at hy
  have hcj : gj.op.isCall = false := pr.callJ.resolve_left hm
  rcases Xj.rdx b h2 with ⟨hc, _⟩ | ⟨x, hx, hr2⟩
  · rw [hcj] at hc; cases hc
  · exact pr.sepJ x hx y hy b hr2 hr
 have md_md : ∀ b, Mdi b → Mdj b → False := fun b h1 h2 => by
  rcases pr.one with h | h
  · exact mdJnone h b h2
  · exact mdInone h b h1
 have newI : ∀ b, ivi b → σ.h b = none := fun b hb => kn.new b (ivI b hb)
 have spJK : ∀ b, ivj b → ¬ K b := fun b hb => pr.spanK b (ivJ b hb)
 have hiX := Li.move σ (Z11 agi) rfl rfl
  (fun b hb => by
   show Same (Fj σ.h b) (σ.h b)
   have hne : Fj σ.h b ≠ none := Li.has b (.inl hb)
   rcases Lj.cls b with h | h | h | ⟨h1, h2⟩
   · exact absurd (knI b (.inl hb)) (spJK b h)
   · exact (mdJ_rdI b h hb).elim
   · rw [h] at hne ⊢; exact Same.refl hne
   · rw [h2] at hne ⊢
     exact (Zl1 (fun q => hne (by rw [q]; rfl))).symm)
  (fun b hb => by
   show σ.h b = Fj σ.h b
   rcases Lj.cls b with h | h | h | ⟨h1, h2⟩
   · exact absurd (knI b (.inr hb)) (spJK b h)
   · exact (md_md b hb h).elim
   · rw [h]
   · exact (mdI_rdJ b hb h1).elim)
 have agj : agG gj σ ⟨put σ.s gi.op.dst ui, Fi σ.h, σ.n, σ.base⟩ := Z10 s3
 have hjX := Lj.move ⟨put σ.s gi.op.dst ui, Fi σ.h, σ.n, σ.base⟩ agj rfl rfl
  (fun b hb => by
   show Same (σ.h b) (Fi σ.h b)
   have hne := Lj.has b (.inl hb)
   rcases Li.cls b with h | h | h | ⟨h1, h2⟩
   · exact absurd (newI b h) hne
   · exact (mdI_rdJ b h hb).elim
   · rw [h]; exact Same.refl hne
   · rw [h2]; exact Zl1 hne)
  (fun b hb => by
   show Fi σ.h b = σ.h b
   have hne := Lj.has b (.inr hb)
   rcases Li.cls b with h | h | h | ⟨h1, h2⟩
   · exact absurd (newI b h) hne
   · exact (md_md b h hb).elim
   · rw [h]
   · exact (mdJ_rdI b hb h1).elim)
 refine ⟨_, Vk (Z11 agi) ai, hiX, Vk agj aj, ?_, rfl, fun c k hc hm hk => known_rows c k hc (mdJnone hm) hk, fun b hb => ?_⟩
 · rw [hjX]
   have hs : put (put σ.s gi.op.dst ui) gj.op.dst uj = put (put σ.s gj.op.dst uj) gi.op.dst ui := (Z3b s2).symm
   have hheap : Fj (Fi σ.h) = Fi (Fj σ.h) := by
    funext b
    rcases Li.cls b with h | h | h | ⟨h1, h2⟩
    · rcases Lj.cls b with g | g | g | ⟨g1, g2⟩
      · exact absurd (ivI b h) (pr.spans b (ivJ b g))
      · exact absurd (newI b h) (Lj.has b (.inr g))
      · rw [g]; exact Li.pw _ _ b (g σ.h).symm
      · exact absurd (newI b h) (Lj.has b (.inl g1))
    · rcases Lj.cls b with g | g | g | ⟨g1, g2⟩
      · exact absurd (knI b (.inr h)) (spJK b g)
      · exact (md_md b h g).elim
      · rw [g]; exact Li.pw _ _ b (g σ.h).symm
      · exact (mdI_rdJ b h g1).elim
    · rw [h]; exact Lj.pw _ _ b (h σ.h)
    · rcases Lj.cls b with g | g | g | ⟨g1, g2⟩
      · exact absurd (knI b (.inl h1)) (spJK b g)
      · exact (mdJ_rdI b g h1).elim
      · rw [g]; exact Li.pw _ _ b (g σ.h).symm
      · rw [g2, h2, h2, g2]
   show some (St.mk (put (put σ.s gi.op.dst ui) gj.op.dst uj) (Fj (Fi σ.h)) σ.n σ.base) = _
   rw [hs, hheap]
 · show Fj σ.h b = none
   have hn := kn.new b hb
   rcases Lj.cls b with g | g | g | ⟨g1, g2⟩
   · exact absurd hb (pr.spans b (ivJ b g))
   · exact absurd hn (Lj.has b (.inr g))
   · rw [g]; exact hn
   · exact absurd hn (Lj.has b (.inl g1))
end Go.Vm
set_option linter.unusedVariables false
set_option linter.unusedSimpArgs false
namespace Go.Vm
open Go.RowKit
variable {h : Hp} {σ σ' σ1 σ2 σf : St} {E : Env} {tot : Nat}
theorem Does.base {g : G} (d : Does E tot g σ σ') (cl : g.op.opds.all Wy = true) : (∃ u hh n, σ' = ⟨put σ.s g.op.dst u, hh, n, σ.base⟩) ∧ (g.op.easy = true → σ'.n = σ.n) := by
 cases d with
 | run ha e =>
   obtain ⟨u, h1, _⟩ := Z1o cl ha e
   refine ⟨⟨u, _, _, h1⟩, fun he => ?_⟩
   obtain ⟨u, F, iv, Md, Rd, h1, _⟩ := Z5j he cl ha e
   rw [h1]
 | skip ht hu => exact ⟨⟨_, _, _, rfl⟩, fun _ => rfl⟩
theorem Zg4 {s : Nat} {w : Bool} {op : AOp} {b : Bool} (q : agG (.g s w op) σ σ2) (h : test σ s w = some b) : test σ2 s w = some b := by
 unfold test at h ⊢
 rw [q s (by simp [G.looks])]
 exact h
def Fits (N : List Nat) (K : Nat → Prop) (gj gi : G) (σ : St) : Prop := gi.op.light = true ∨ gj.op.light = true ∨ (gi.op.easy = true ∧ gj.op.easy = true ∧ Kn K gi σ ∧ Pair K gj gi σ) ∨
 (gi.op.quiet = true ∧ gj.op.isDc = true ∧ ∀ x ∈ gi.op.rdOpds, ∀ b ∈ nmX (ev (tauG gi σ) x), b ∈ N) ∨ (gj.op.quiet = true ∧ gi.op.isDc = true ∧ ∀ x ∈ gj.op.rdOpds, ∀ b ∈ nmX (ev (tauG gj σ) x), b ∈ N)
structure EnvKeep (E : Env) (N : List Nat) : Prop where
 keep : ∀ f as h n r, E.dc f as h n = some r → Za7 N h r.2.1
 mono : ∀ f as h n r, E.dc f as h n = some r → n ≤ r.2.2
theorem Z98 {op : AOp} (h : op.isDc = true) : op.easy = false ∧ op.names = (0, 0) ∧ op.isCall = false ∧ op.yields = none := by
 cases op <;> simp [AOp.isDc] at h <;> exact ⟨rfl, rfl, rfl, rfl⟩
theorem Zkw {N : List Nat} (hN : EnvKeep E N) {op : AOp} (h : op.isDc = true) (e : step E tot op σ = some σ') : Za7 N σ.h σ'.h ∧ σ.n + tot ≤ σ'.n := by
 cases op with
 | dcall d f xs =>
   simp only [step, doDc] at e
   obtain ⟨r, hr, e1⟩ := Z3 e
   simp only [Option.some.injEq] at e1
   subst e1
   exact ⟨hN.keep _ _ _ _ _ hr, hN.mono _ _ _ _ _ hr⟩
 | dcallv d y xs =>
   simp only [step, doDc] at e
   obtain ⟨p, hp, e0⟩ := Z3 e
   obtain ⟨r, hr, e1⟩ := Z3 e0
   simp only [Option.some.injEq] at e1
   subst e1
   exact ⟨hN.keep _ _ _ _ _ hr, hN.mono _ _ _ _ _ hr⟩
 | _ => simp [AOp.isDc] at h
theorem Z9m {N : List Nat} (hN : EnvKeep E N) {g : G} (h : g.op.isDc = true) (ha : g.active σ) (e : Yc E tot g σ = some σ') : Za7 N σ.h σ'.h ∧ σ.n + tot ≤ σ'.n := by
 cases g with
 | o op => exact Zkw hN h e
 | g s w op =>
   simp only [G.op] at h
   have ht : test σ s w = some true := ha
   have hv : Zu E σ.h (fun x => evp true σ x) (fun q x => evq (true && q) σ x) op = none := by
    cases op <;> first | rfl | (simp [AOp.isDc] at h)
   simp only [Yc, ht, X6, (Z98 h).2.2.2, Xc, hv, cond_true] at e
   obtain ⟨σ1, hs1, e2⟩ := Z3 e
   unfold back at e2
   simp only [Option.some.injEq] at e2
   subst e2
   have q := Zkw (σ := strip σ) hN h hs1
   exact q
theorem Does.kept {N : List Nat} (hN : EnvKeep E N) {g : G} (h : g.op.isDc = true) (d : Does E tot g σ σ') : Za7 N σ.h σ'.h ∧ (σ'.n = σ.n ∨ σ.n + tot ≤ σ'.n) := by
 cases d with
 | run ha e => obtain ⟨q1, q2⟩ := Z9m hN h ha e; exact ⟨q1, .inr q2⟩
 | skip ht hu => exact ⟨fun _ _ => rfl, .inl rfl⟩
theorem swap {N : List Nat} (hN : EnvKeep E N) {K : Nat → Prop} {gi gj : G} (ci : gi.op.opds.all Wy = true) (cj : gj.op.opds.all Wy = true) (sl : Z1n gj gi = true) (ft : Fits N K gj gi σ) (dj : Does E tot gj σ σ1) (di : Does E tot gi σ1 σ2) :
 ∃ σ', Does E tot gi σ σ' ∧ Does E tot gj σ' σ2 := by
 obtain ⟨s1, s2, s3⟩ := Wq sl
 have skipI : ∀ {s w op u}, gi = .g s w op → test σ1 s w = some false → junk u → σ2 = ⟨put σ1.s op.dst u, σ1.h, σ1.n, σ1.base⟩ → ∃ σ', Does E tot gi σ σ' ∧ Does E tot gj σ' σ2 := by
  intro s w op u hg ht hu h2
  subst hg
  subst h2
  cases dj with
  | run ha e =>
    obtain ⟨uj, h1, h2⟩ := Z1o cj ha e
    have agi : agG (.g s w op) σ σ1 := by rw [h1]; exact Z10 s1
    have agj : agG gj σ ⟨put σ.s op.dst u, σ.h, σ.n, σ.base⟩ := Z10 s3
    refine ⟨_, .skip (Zg4 (Z11 agi) ht) hu, .run (Vk agj ha) ?_⟩
    rw [h2 _ agj rfl rfl rfl]
    rw [h1]
    show some (St.mk (put (put σ.s op.dst u) gj.op.dst uj) _ _ _) = some (St.mk (put (put σ.s gj.op.dst uj) op.dst u) _ _ _)
    rw [Z3b (d := gj.op.dst) (d' := op.dst) s2]
  | @skip s' w' op' _ uj ht' hu' =>
    have agi : agG (.g s w op) σ ⟨put σ.s op'.dst uj, σ.h, σ.n, σ.base⟩ := Z10 s1
    have agj : agG (.g s' w' op') σ ⟨put σ.s op.dst u, σ.h, σ.n, σ.base⟩ := Z10 s3
    refine ⟨_, .skip (Zg4 (Z11 agi) ht) hu, ?_⟩
    have := Does.skip (E := E) (tot := tot) (op := op') (Zg4 agj ht') hu'
    show Does E tot _ _ (St.mk (put (put σ.s op'.dst uj) op.dst u) _ _ _)
    rw [Z3b (d := op'.dst) (d' := op.dst) s2]
    exact this
 cases di with
 | skip ht hu => exact skipI rfl ht hu rfl
 | run ai hi =>
   cases dj with
   | @skip s' w' op' _ uj ht' hu' =>
     have agi : agG gi σ ⟨put σ.s op'.dst uj, σ.h, σ.n, σ.base⟩ := Z10 s1
     obtain ⟨u, h1, h2⟩ := Z1o ci ai hi
     have hiX := h2 σ (Z11 agi) rfl rfl rfl
     have agj : agG (.g s' w' op') σ ⟨put σ.s gi.op.dst u, σ2.h, σ2.n, σ.base⟩ := Z10 s3
     refine ⟨_, .run (Vk (Z11 agi) ai) hiX, ?_⟩
     have := Does.skip (E := E) (tot := tot) (op := op') (Zg4 agj ht') hu'
     rw [h1]
     show Does E tot _ _ (St.mk (put (put σ.s op'.dst uj) gi.op.dst u) _ _ _)
     rw [Z3b (d := op'.dst) s2]
     exact this
   | run aj hj =>
     rcases ft with hl | hl | ⟨ei, ej, kn, pr⟩ | ⟨qi, dcj, hn⟩ | ⟨qj, dci, hn⟩
     · -- i touches no row
       obtain ⟨uj, h1, h2⟩ := Z1o cj aj hj
       have agi : agG gi σ σ1 := by rw [h1]; exact Z10 s1
       obtain ⟨ui, h3, h4⟩ := Z7b hl ai hi
       have hiX := h4 σ (Z11 agi)
       have agj : agG gj σ ⟨put σ.s gi.op.dst ui, σ.h, σ.n, σ.base⟩ := Z10 s3
       refine ⟨_, .run (Vk (Z11 agi) ai) hiX, .run (Vk agj aj) ?_⟩
       rw [h2 _ agj rfl rfl rfl, h3, h1]
       show some (St.mk (put (put σ.s gi.op.dst ui) gj.op.dst uj) _ _ _) = some (St.mk (put (put σ.s gj.op.dst uj) gi.op.dst ui) _ _ _)
       rw [Z3b (d := gj.op.dst) s2]
     · -- j touches no row
       obtain ⟨uj, h1, h2⟩ := Z7b hl aj hj
       have agi : agG gi σ σ1 := by rw [h1]; exact Z10 s1
       obtain ⟨ui, h3, h4⟩ := Z1o ci ai hi
       have hiX := h4 σ (Z11 agi) (by rw [h1]) (by rw [h1]) (by rw [h1])
       have agj : agG gj σ ⟨put σ.s gi.op.dst ui, σ2.h, σ2.n, σ.base⟩ := Z10 s3
       refine ⟨_, .run (Vk (Z11 agi) ai) hiX, .run (Vk agj aj) ?_⟩
       rw [h2 _ agj, h3, h1]
       show some (St.mk (put (put σ.s gi.op.dst ui) gj.op.dst uj) _ _ _) = some (St.mk (put (put σ.s gj.op.dst uj) gi.op.dst ui) _ _ _)
       rw [Z3b (d := gj.op.dst) s2]
     · obtain ⟨σ', q1, q2, q3, q4, _⟩ := Zv1 ei ej ci cj kn pr aj hj ai hi
       exact ⟨σ', .run q1 q2, .run q3 q4⟩
     · -- i reads what j Zaq
       obtain ⟨uj, h1, h2⟩ := Z1o cj aj hj
       have hk := (Z9m hN dcj aj hj).1
       have agi : agG gi σ σ1 := by rw [h1]; exact Z10 s1
       obtain ⟨ui, h3, h4⟩ := Z7f qi ci ai hi
       have hiX := h4 σ (Z11 agi) (fun x hx b hb => by
        rw [Zp0 agi x (Vo x hx)] at hb
        exact hk b (hn x hx b hb))
       have agj : agG gj σ ⟨put σ.s gi.op.dst ui, σ.h, σ.n, σ.base⟩ := Z10 s3
       refine ⟨_, .run (Vk (Z11 agi) ai) hiX, .run (Vk agj aj) ?_⟩
       rw [h2 _ agj rfl rfl rfl, h3, h1]
       show some (St.mk (put (put σ.s gi.op.dst ui) gj.op.dst uj) _ _ _) = some (St.mk (put (put σ.s gj.op.dst uj) gi.op.dst ui) _ _ _)
       rw [Z3b (d := gj.op.dst) s2]
     · -- j reads what i Zaq
       obtain ⟨uj, h1, h2⟩ := Z7f qj cj aj hj
       have agi : agG gi σ σ1 := by rw [h1]; exact Z10 s1
       obtain ⟨ui, h3, h4⟩ := Z1o ci ai hi
       have hk := (Z9m hN dci ai hi).1
       have hiX := h4 σ (Z11 agi) (by rw [h1]) (by rw [h1]) (by rw [h1])
       have agj : agG gj σ ⟨put σ.s gi.op.dst ui, σ2.h, σ2.n, σ.base⟩ := Z10 s3
       refine ⟨_, .run (Vk (Z11 agi) ai) hiX, .run (Vk agj aj) ?_⟩
       rw [h2 _ agj (fun x hx b hb => by
        have := hk b (hn x hx b hb)
        rw [h1] at this
        exact this.symm), h3, h1]
       show some (St.mk (put (put σ.s gi.op.dst ui) gj.op.dst uj) _ _ _) = some (St.mk (put (put σ.s gj.op.dst uj) gi.op.dst ui) _ _ _)
       rw [Z3b (d := gj.op.dst) s2]
theorem Kn.still {K : Nat → Prop} {gi gj : G} (cj : gj.op.opds.all Wy = true) (sl : Z1n gj gi = true) (kn : Kn K gi σ) (dj : Does E tot gj σ σ1) (h1 : σ1.h = σ.h ∨ (gi.op.names = (0, 0) ∧ gi.op.isCall = false)) (h2 : σ1.n = σ.n ∨ gi.op.names = (0, 0)) : Kn K gi σ1 := by
 obtain ⟨s1, s2, s3⟩ := Wq sl
 obtain ⟨⟨u, hh, n, e1⟩, _⟩ := dj.base cj
 have agi : agG gi σ σ1 := by rw [e1]; exact Z10 s1
 have hev := Zp0 agi
 refine ⟨fun x hx b hb => ?_, fun hc c hk k hkk row hrow b hb => ?_, fun b hb => ?_⟩
 · rw [hev x hx] at hb; exact kn.ops x hx b hb
 · rcases h1 with h | h
   · rw [h] at hkk; exact kn.rows hc c hk k hkk row hrow b hb
   · rw [h.2] at hc; cases hc
 · rcases h2 with h2 | h2
   · rcases h1 with h | h
     · rw [h2] at hb; rw [h]; exact kn.new b hb
     · rw [h.1] at hb; simp only [span] at hb; omega
   · rw [h2] at hb; simp only [span] at hb; omega
theorem Kn.step {K : Nat → Prop} {gi gj : G} (ci : gi.op.opds.all Wy = true) (cj : gj.op.opds.all Wy = true) (sl : Z1n gj gi = true) (kn : Kn K gi σ) (dj : Does E tot gj σ σ1) (ej : gj.op.light = true ∨ (gj.op.easy = true ∧ Pair K gj gi σ)) : Kn K gi σ1 ∧ σ1.n = σ.n := by
 obtain ⟨s1, s2, s3⟩ := Wq sl
 have he : gj.op.easy = true := by
  rcases ej with h | h
  · exact (Zpy h).2.2.2.2
  · exact h.1
 obtain ⟨⟨u, hh, n, h1⟩, h2⟩ := dj.base cj
 have hn := h2 he
 have agi : agG gi σ σ1 := by rw [h1]; exact Z10 s1
 have hev := Zp0 agi
 have rows : (∀ c k, K c → gi.op.isCall = true → σ1.h c = some k → ∃ k', σ.h c = some k' ∧ k'.rows = k.rows) ∧ (∀ b, span (σ.n + gi.op.names.1) gi.op.names.2 b → σ1.h b = none) := by
  cases dj with
  | skip ht hu => exact ⟨fun c k _ _ hk => ⟨k, hk, rfl⟩, kn.new⟩
  | run aj hj =>
    rcases ej with hl | ⟨hej, pr⟩
    · obtain ⟨uj, h1, _⟩ := Z7b hl aj hj
      rw [h1]
      exact ⟨fun c k _ _ hk => ⟨k, hk, rfl⟩, kn.new⟩
    · obtain ⟨uj, Fj, ivj, Mdj, Rdj, h1, Lj, Xj⟩ := Z5j hej cj aj hj
      obtain ⟨thj, tnj⟩ := Y0w gj σ
      have ivJ : ∀ b, ivj b → span (σ.n + gj.op.names.1) gj.op.names.2 b := fun b hb => by have := Xj.ivs b hb; rwa [tnj] at this
      rw [h1]
      refine ⟨fun c k hc hcall hk => ?_, fun b hb => ?_⟩
      · have hmd : gj.op.mdOpds = [] := by
         rcases pr.callI with h | h
         · exact h
         · rw [hcall] at h; cases h
        simp only at hk
        rcases Lj.cls c with h | h | h | ⟨h1, h2⟩
        · exact absurd hc (pr.spanK c (ivJ c h))
        · obtain ⟨y, hy, _⟩ := Xj.mdx c h
          rw [hmd] at hy; simp at hy
        · rw [h] at hk; exact ⟨k, hk, rfl⟩
        · rw [h2] at hk
          cases hs : σ.h c with
          | none => rw [hs] at hk; cases hk
          | some k0 => rw [hs] at hk; simp only [frz1, Option.map_some, Option.some.injEq] at hk; subst hk; exact ⟨k0, rfl, rfl⟩
      · have hnb := kn.new b hb
        show Fj σ.h b = none
        rcases Lj.cls b with g | g | g | ⟨g1, g2⟩
        · exact absurd hb (pr.spans b (ivJ b g))
        · exact absurd hnb (Lj.has b (.inr g))
        · rw [g]; exact hnb
        · exact absurd hnb (Lj.has b (.inl g1))
 refine ⟨⟨fun x hx b hb => ?_, fun hc c hk k hkk row hrow b hb => ?_, fun b hb => ?_⟩, hn⟩
 · rw [hev x hx] at hb; exact kn.ops x hx b hb
 · obtain ⟨k', hk', hr⟩ := rows.1 c k hk hc hkk
   exact kn.rows hc c hk k' hk' row (by rw [hr]; exact hrow) b hb
 · rw [hn] at hb; exact rows.2 b hb
inductive Runs (E : Env) (tot : Nat) (gs : List G) : List Nat → St → St → Prop
 | nil (σ : St) : Runs E tot gs [] σ σ
 | cons {i : Nat} {is : List Nat} {g : G} {σ σ1 σ2 : St} (hg : gs[i]? = some g) (d : Does E tot g σ σ1) (r : Runs E tot gs is σ1 σ2) : Runs E tot gs (i :: is) σ σ2
def Y2h (sep : List (Opd × Opd)) : Opd → Opd → Bool
 | .t n, .t m => sep.any fun p => match p.1, p.2 with
   | .t a, .t b => a == n && b == m
   | _, _ => false
 | _, _ => true
def Zuz (sep : List (Opd × Opd)) (xs ys : List Opd) : Bool := xs.all fun x => ys.all fun y => Y2h sep x y
def Zaq (sep : List (Opd × Opd)) (t : Nat) : Bool := sep.any fun p => match p.1, p.2 with
 | .t a, .k _ => a == t
 | _, _ => false
def Zo9 (sep : List (Opd × Opd)) : Opd → Bool
 | .t t => Zaq sep t
 | .k _ => true
def Zf6 (sep : List (Opd × Opd)) (gj gi : G) : Bool :=
 Z1n gj gi && (gi.op.light || gj.op.light || (gi.op.quiet && gj.op.isDc && gi.op.rdOpds.all (Zo9 sep)) || (gj.op.quiet && gi.op.isDc && gj.op.rdOpds.all (Zo9 sep)) || (gi.op.easy && gj.op.easy && (gj.op.mdOpds.isEmpty || gi.op.mdOpds.isEmpty) &&
  (gi.op.mdOpds.isEmpty || (!gj.op.isCall && Zuz sep gj.op.rdOpds gi.op.mdOpds)) && (gj.op.mdOpds.isEmpty || (!gi.op.isCall && Zuz sep gi.op.rdOpds gj.op.mdOpds))))
structure RegOk (tot : Nat) (gs : List G) (sep : List (Opd × Opd)) (masks : Nat → Nat) : Prop where
 clean : ∀ (i : Nat) (g : G), gs[i]? = some g → g.op.opds.all Wy = true
 names : ∀ (i j : Nat) (gi gj : G), i ≠ j → gs[i]? = some gi → gs[j]? = some gj → ∀ n b, span (n + gj.op.names.1) gj.op.names.2 b → ¬ span (n + gi.op.names.1) gi.op.names.2 b
 inTot : ∀ (i : Nat) (g : G), gs[i]? = some g → g.op.names.2 ≠ 0 → g.op.names.1 + g.op.names.2 ≤ tot
 pair : ∀ (j i : Nat) (gj gi : G), j < i → gs[j]? = some gj → gs[i]? = some gi → (masks i).testBit j = false → Zf6 sep gj gi = true
 stab : sep ≠ [] → ∀ (i : Nat) (g : G), gs[i]? = some g → ∀ t, (.t t ∈ g.op.rdOpds ∨ .t t ∈ g.op.mdOpds) → ∀ (k : Nat) (g' : G), i ≤ k → gs[k]? = some g' → g'.op.dst ≠ some t
theorem Zjr {gs : List G} {is : List Nat} {t : Nat} (r : Runs E tot gs is σ σf) (cl : ∀ (i : Nat) (g : G), gs[i]? = some g → g.op.opds.all Wy = true) (h : ∀ i ∈ is, ∀ g, gs[i]? = some g → g.op.dst ≠ some t) : σf.s t = σ.s t := by
 induction r with
 | nil => rfl
 | cons hg d r ih =>
   rw [ih (fun i hi => h i (List.mem_cons_of_mem _ hi))]
   obtain ⟨⟨u, hh, n, h1⟩, _⟩ := d.base (cl _ _ hg)
   rw [h1]
   exact Zxy (fun k hk q => h _ List.mem_cons_self _ hg (by rw [hk, q]))
theorem Y0t {a : A} {b : Nat} (h : b ∈ nmX a) : b ∈ nmX (unT a) := by
 cases a with
 | ifg g a => simp [nmX, nmIn, A.cells, Zi, X7] at h
 | _ => exact h
theorem Zwv {a : A} {b : Nat} (h : b ∈ nmIn a) : b ∈ nmIn (unT a) := by
 cases a with
 | ifg g a => simp [nmIn] at h
 | _ => exact h
theorem Zsv {g : G} {n b : Nat} (h : b ∈ nmX (ev (tauG g σ) (.t n))) : b ∈ nmX (unT (σ.s n)) := by
 cases g with
 | o op => exact Y0t h
 | g s w op => exact h
theorem Zx7 {g : G} {n b : Nat} (h : b ∈ nmIn (ev (tauG g σ) (.t n))) : b ∈ nmIn (unT (σ.s n)) := by
 cases g with
 | o op => exact Zwv h
 | g s w op => exact h
theorem Z8x {a : A} (h : clean a = true) : nmX a = [] ∧ nmP a = [] := by
 cases a with
 | v x => exact ⟨rfl, rfl⟩
 | lit ty r => exact ⟨rfl, rfl⟩
 | agg cs =>
   refine ⟨?_, rfl⟩
   simp only [nmX, nmIn, A.cells, List.nil_append]
   simp only [clean] at h
   induction cs with
   | nil => rfl
   | cons c cs ih =>
     simp only [List.all_cons, Bool.and_eq_true] at h
     simp only [Zi, ih h.2, List.append_nil]
     cases c <;> first | rfl | (have := h.1; simp [Zy5] at this)
 | fn f caps =>
   cases caps with
   | nil => exact ⟨rfl, rfl⟩
   | cons c cs => simp [clean] at h
 | _ => simp [clean] at h
theorem Zxg {sep : List (Opd × Opd)} (h : seps σ sep = true) : ∀ p ∈ sep, sepV (ev σ p.1) (ev σ p.2) = true := by
 induction sep with
 | nil => intro p hp; simp at hp
 | cons q qs ih =>
   simp only [seps, Bool.and_eq_true] at h
   intro p hp
   rcases List.mem_cons.1 hp with rfl | hp
   · exact h.1
   · exact ih h.2 p hp
theorem Zp3 {sep : List (Opd × Opd)} {ga gb : G} {xs ys : List Opd} (hs : seps σf sep = true) (ha : Zuz sep xs ys = true) (cx : ∀ x ∈ xs, Wy x = true) (cy : ∀ y ∈ ys, Wy y = true)
 (ex : ∀ t, .t t ∈ xs → sep ≠ [] → σf.s t = σ.s t) (ey : ∀ t, .t t ∈ ys → sep ≠ [] → σf.s t = σ.s t) :
 ∀ x ∈ xs, ∀ y ∈ ys, ∀ b, b ∈ nmX (ev (tauG ga σ) x) → b ∈ nmIn (ev (tauG gb σ) y) → False := by
 intro x hx y hy b h1 h2
 have hok := List.all_eq_true.1 (List.all_eq_true.1 ha x hx) y hy
 cases x with
 | k a =>
   have : ev (tauG ga σ) (.k a) = a := by cases ga <;> rfl
   rw [this, (Z8x (cx _ hx)).1] at h1
   simp at h1
 | t n =>
   cases y with
   | k a =>
     have : ev (tauG gb σ) (.k a) = a := by cases gb <;> rfl
     rw [this] at h2
     have := (Z8x (cy _ hy)).1
     simp only [nmX, List.append_eq_nil_iff] at this
     rw [this.1] at h2
     simp at h2
   | t m =>
     simp only [Y2h, List.any_eq_true] at hok
     obtain ⟨p, hp, he⟩ := hok
     obtain ⟨p1, p2⟩ := p
     cases p1 <;> cases p2 <;> simp at he
     obtain ⟨rfl, rfl⟩ := he
     have hne : sep ≠ [] := fun q => by rw [q] at hp; simp at hp
     have hv := Zxg hs _ hp
     simp only [ev] at hv
     rw [ex _ hx hne, ey _ hy hne] at hv
     unfold sepV at hv
     have := List.all_eq_true.1 hv b (Zx7 h2)
     simp at this
     exact this (Zsv h1)
theorem Zue {N : List Nat} {sep : List (Opd × Opd)} (h : Z13 σf N sep = true) : ∀ t, Zaq sep t = true → ∀ b ∈ nmX (unT (σf.s t)), b ∈ N := by
 induction sep with
 | nil => intro t ht; simp [Zaq] at ht
 | cons p ps ih =>
   intro t ht b hb
   obtain ⟨p1, p2⟩ := p
   have ht' : Zaq [(p1, p2)] t = true ∨ Zaq ps t = true := by
    simp only [Zaq, List.any_cons, List.any_nil, Bool.or_false, Bool.or_eq_true] at ht ⊢
    exact ht
   cases p1 with
   | k a => 
     rcases ht' with h' | h'
     · simp [Zaq] at h'
     · exact ih (by simpa [Z13] using h) t h' b hb
   | t a =>
     cases p2 with
     | t c =>
       rcases ht' with h' | h'
       · simp [Zaq] at h'
       · exact ih (by simpa [Z13] using h) t h' b hb
     | k c =>
       simp only [Z13, Bool.and_eq_true] at h
       rcases ht' with h' | h'
       · simp [Zaq] at h'
         subst h'
         have := List.all_eq_true.1 h.1 b hb
         simpa using this
       · exact ih h.2 t h' b hb
theorem Zl9 {N : List Nat} {sep : List (Opd × Opd)} {g : G} {xs : List Opd} (hk : Z13 σf N sep = true) (ha : xs.all (Zo9 sep) = true) (cx : ∀ x ∈ xs, Wy x = true) (ex : ∀ t, .t t ∈ xs → sep ≠ [] → σf.s t = σ.s t) :
 ∀ x ∈ xs, ∀ b ∈ nmX (ev (tauG g σ) x), b ∈ N := by
 intro x hx b hb
 have hko := List.all_eq_true.1 ha x hx
 cases x with
 | k a =>
   have : ev (tauG g σ) (.k a) = a := by cases g <;> rfl
   rw [this, (Z8x (cx _ hx)).1] at hb
   simp at hb
 | t n =>
   have hne : sep ≠ [] := fun q => by rw [q] at hko; simp [Zo9, Zaq] at hko
   have := Zsv hb
   rw [← ex n hx hne] at this
   exact Zue hk n hko b this
theorem Y6d {N : List Nat} (hN : EnvKeep E N) {K : Nat → Prop} {gs : List G} {sep : List (Opd × Opd)} {masks : Nat → Nat} (R : RegOk tot gs sep masks) (hs : seps σf sep = true) (hkp : Z13 σf N sep = true) {i : Nat} {gi : G} (hgi : gs[i]? = some gi) : ∀ (L1 L2 : List Nat) (σ : St),
 (∀ j ∈ L1, j < i) → L1.Pairwise (· < ·) → (∀ k ∈ L2, i < k) → (∀ j ∈ L1, (masks i).testBit j = false) →
 (gi.op.light = true ∨ (Kn K gi σ ∧ (∀ j ∈ L1, ∀ gj, gs[j]? = some gj → ∀ b, span (σ.n + gj.op.names.1) gj.op.names.2 b → ¬ K b) ∧ ∀ b, σ.n + tot ≤ b → ¬ K b)) →
 (∀ t, (.t t ∈ gi.op.rdOpds ∨ .t t ∈ gi.op.mdOpds) → sep ≠ [] → σf.s t = σ.s t) →
 Runs E tot gs (L1 ++ i :: L2) σ σf → ∃ σ', Does E tot gi σ σ' ∧ Runs E tot gs (L1 ++ L2) σ' σf := by
 intro L1
 induction L1 with
 | nil =>
   intro L2 σ _ _ _ _ _ _ r
   cases r with
   | cons hg d r =>
     rw [hgi] at hg
     cases hg
     exact ⟨_, d, r⟩
 | cons j L1 ih =>
   intro L2 σ hlt hpw hgt hm hk hst r
   cases r with
   | @cons _ _ gj _ σ1 _ hgj dj r =>
     have hji := hlt j List.mem_cons_self
     have ci := R.clean i gi hgi
     have cj := R.clean j gj hgj
     have hp := R.pair j i gj gi hji hgj hgi (hm j List.mem_cons_self)
     simp only [Zf6, Bool.and_eq_true, Bool.or_eq_true] at hp
     obtain ⟨sl, hp⟩ := hp
     obtain ⟨s1, s2, s3⟩ := Wq sl
     have hpw' := List.pairwise_cons.1 hpw
     have stJ : ∀ t, (.t t ∈ gj.op.rdOpds ∨ .t t ∈ gj.op.mdOpds) → sep ≠ [] → σf.s t = σ.s t := fun t ht hne => by
      have hall : Runs E tot gs (j :: (L1 ++ i :: L2)) σ σf := .cons hgj dj r
      refine Zjr hall R.clean (fun k hk g' hg' => R.stab hne j gj hgj t ht k g' ?_ hg')
      rcases List.mem_cons.1 hk with rfl | hk
      · exact Nat.le_refl _
      · rcases List.mem_append.1 hk with hk | hk
        · exact Nat.le_of_lt (hpw'.1 k hk)
        · rcases List.mem_cons.1 hk with rfl | hk
          · exact Nat.le_of_lt hji
          · exact Nat.le_of_lt (Nat.lt_trans hji (hgt k hk))
     have clI : ∀ x ∈ gi.op.opds, Wy x = true := fun x hx => List.all_eq_true.1 ci x hx
     have clJ : ∀ x ∈ gj.op.opds, Wy x = true := fun x hx => List.all_eq_true.1 cj x hx
     have mkPair : gi.op.easy = true ∧ gj.op.easy = true → gi.op.light = false → gj.op.light = false → Kn K gi σ → (∀ b, span (σ.n + gj.op.names.1) gj.op.names.2 b → ¬ K b) → Pair K gj gi σ := by
      intro he h1 h2 kn hsp
      rcases hp with (((hp | hp) | hp) | hp) | hp
      · rw [h1] at hp; cases hp
      · rw [h2] at hp; cases hp
      · rw [(Z98 hp.1.2).1] at he; cases he.2
      · rw [(Z98 hp.1.2).1] at he; cases he.1
      · simp only [Bool.not_eq_true', List.isEmpty_iff] at hp
        obtain ⟨⟨⟨⟨e1, e2⟩, e3⟩, e4⟩, e5⟩ := hp
        refine ⟨sl, hsp, R.names i j gi gj (by omega) hgi hgj σ.n, e3, ?_, ?_, ?_, ?_⟩
        · rcases e4 with h | h
          · exact .inl h
          · exact .inr h.1
        · rcases e5 with h | h
          · exact .inl h
          · exact .inr h.1
        · rcases e4 with h | h
          · intro x _ y hy; rw [h] at hy; simp at hy
          · exact Zp3 hs h.2 (fun x hx => clJ x (Vo x hx)) (fun y hy => clI y (Z1j y hy)) (fun t ht => stJ t (.inl ht)) (fun t ht => hst t (.inr ht))
        · rcases e5 with h | h
          · intro x _ y hy; rw [h] at hy; simp at hy
          · exact Zp3 hs h.2 (fun x hx => clI x (Vo x hx)) (fun y hy => clJ y (Z1j y hy)) (fun t ht => hst t (.inl ht)) (fun t ht => stJ t (.inr ht))
     have kind : gi.op.light = true ∨ gj.op.light = true ∨ (gi.op.easy = true ∧ gj.op.easy = true) ∨ (gi.op.quiet = true ∧ gj.op.isDc = true ∧ ∀ x ∈ gi.op.rdOpds, ∀ b ∈ nmX (ev (tauG gi σ) x), b ∈ N) ∨ (gj.op.quiet = true ∧ gi.op.isDc = true ∧ ∀ x ∈ gj.op.rdOpds, ∀ b ∈ nmX (ev (tauG gj σ) x), b ∈ N) := by
      rcases hp with (((hp | hp) | hp) | hp) | hp
      · exact .inl hp
      · exact .inr (.inl hp)
      · exact .inr (.inr (.inr (.inl ⟨hp.1.1, hp.1.2, Zl9 hkp hp.2 (fun x hx => clI x (Vo x hx)) (fun t ht => hst t (.inl ht))⟩)))
      · exact .inr (.inr (.inr (.inr ⟨hp.1.1, hp.1.2, Zl9 hkp hp.2 (fun x hx => clJ x (Vo x hx)) (fun t ht => stJ t (.inl ht))⟩)))
      · exact .inr (.inr (.inl hp.1.1.1))
     have ft : Fits N K gj gi σ := by
      cases h1 : gi.op.light with
      | true => exact .inl h1
      | false =>
        cases h2 : gj.op.light with
        | true => exact .inr (.inl h2)
        | false =>
          rcases hk with h | ⟨kn, hsp, _⟩
          · rw [h1] at h; cases h
          · rcases kind with h | h | h | h | h
            · rw [h1] at h; cases h
            · rw [h2] at h; cases h
            · exact .inr (.inr (.inl ⟨h.1, h.2, kn, mkPair h h1 h2 kn (hsp j List.mem_cons_self gj hgj)⟩))
            · exact .inr (.inr (.inr (.inl h)))
            · exact .inr (.inr (.inr (.inr h)))
     have hk1 : gi.op.light = true ∨ (Kn K gi σ1 ∧ (∀ j ∈ L1, ∀ gj, gs[j]? = some gj → ∀ b, span (σ1.n + gj.op.names.1) gj.op.names.2 b → ¬ K b) ∧ ∀ b, σ1.n + tot ≤ b → ¬ K b) := by
      cases h1 : gi.op.light with
      | true => exact .inl rfl
      | false =>
        right
        rcases hk with h | ⟨kn, hsp, hout⟩
        · rw [h1] at h; cases h
        · have fin : Kn K gi σ1 → (σ1.n = σ.n ∨ σ.n + tot ≤ σ1.n) → (Kn K gi σ1 ∧ (∀ j ∈ L1, ∀ gj, gs[j]? = some gj → ∀ b, span (σ1.n + gj.op.names.1) gj.op.names.2 b → ¬ K b) ∧ ∀ b, σ1.n + tot ≤ b → ¬ K b) := by
           intro kn1 hn
           refine ⟨kn1, fun k hk' gk hgk b hb => ?_, fun b hb => ?_⟩
           · rcases hn with hn | hn
             · rw [hn] at hb; exact hsp k (List.mem_cons_of_mem _ hk') gk hgk b hb
             · exact hout b (by simp only [span] at hb; omega)
           · exact hout b (by rcases hn with hn | hn <;> omega)
          rcases kind with h | h | h | h | h
          · rw [h1] at h; cases h
          · obtain ⟨kn1, hn⟩ := kn.step ci cj sl dj (.inl h)
            exact fin kn1 (.inl hn)
          · cases h2 : gj.op.light with
            | true =>
              obtain ⟨kn1, hn⟩ := kn.step ci cj sl dj (.inl h2)
              exact fin kn1 (.inl hn)
            | false =>
              obtain ⟨kn1, hn⟩ := kn.step ci cj sl dj (.inr ⟨h.2, mkPair h h1 h2 kn (hsp j List.mem_cons_self gj hgj)⟩)
              exact fin kn1 (.inl hn)
          · obtain ⟨q1, _, q3, _⟩ := Zc2 h.1
            exact fin (kn.still cj sl dj (.inr ⟨q1, q3⟩) (.inr q1)) (dj.kept hN h.2.1).2
          · have hh : σ1.h = σ.h ∧ σ1.n = σ.n := by
             cases dj with
             | run ha e => obtain ⟨u, e1, _⟩ := Z7f h.1 cj ha e; rw [e1]; exact ⟨rfl, rfl⟩
             | skip ht hu => exact ⟨rfl, rfl⟩
            exact fin (kn.still cj sl dj (.inl hh.1) (.inl hh.2)) (.inl hh.2)
     have hst1 : ∀ t, (.t t ∈ gi.op.rdOpds ∨ .t t ∈ gi.op.mdOpds) → sep ≠ [] → σf.s t = σ1.s t := fun t ht hne => by
      rw [hst t ht hne]
      obtain ⟨⟨u, hh, n, h1⟩, _⟩ := dj.base cj
      have hin : .t t ∈ gi.op.opds := by
       rcases ht with ht | ht
       · exact Vo _ ht
       · exact Z1j _ ht
      rw [h1]
      exact (Znk (g := gi) (σ2 := ⟨put σ.s gj.op.dst u, hh, n, σ.base⟩) (Z10 s1) hin).symm
     obtain ⟨σ1', d1, r1⟩ := ih L2 σ1 (fun k hk => hlt k (List.mem_cons_of_mem _ hk)) hpw'.2 hgt (fun k hk => hm k (List.mem_cons_of_mem _ hk)) hk1 hst1 r
     obtain ⟨σ', d2, d3⟩ := swap hN ci cj sl ft dj d1
     exact ⟨σ', d2, .cons hgj d3 r1⟩
end Go.Vm
set_option linter.unusedVariables false
set_option linter.unusedSimpArgs false
namespace Go.Vm
open Go.RowKit
variable {P : Program} {ρ ρ' ρ'' : Rho} {S S' S'' : Nat → Prop} {w w' w'' : World} {B N : Nat} {h : Hp} {E : Env} {tot base : Nat}
theorem Zqg (hE : EnvOk P E) {σ σ' : St} {a : Act} {ops : Array Oper} {i : Nat} {o : Oper} {g : G} {Q : Exit → Act → World → Prop} (hi : ops[i]? = some o) (T : SW P ρ S B N σ a w) (ok : okG P N ops o g = true)
 (hf : ∀ b, lays tot σ.n g.op b → ρ b = none) (d : Does E tot g σ σ') {K : Act → World → Prop}
 (k : ∀ v w', Fin' P B ρ S w (lays tot σ.n g.op) g.op.isD σ σ' g.op.dst v w' → K (a.put o.dst v) w') : wpOp P ops Q i K a w := by
 cases d with
 | run ha e => exact Zfs hE hi T ok hf e k
 | @skip s wt op _ u ht hu =>
   unfold wpOp
   rw [hi]
   simp only [okG, Bool.and_eq_true, decide_eq_true_eq] at ok
   obtain ⟨⟨⟨ok1, ok2⟩, ok3⟩, ok4⟩ := ok
   have ok4' : ∃ j w1, o.guard = some (j, w1) ∧ w1 = wt ∧ (ops[j]?).bind (·.dst) = some s := by
    cases hg : o.guard with
    | none => rw [hg] at ok4; simp at ok4
    | some p =>
      obtain ⟨j, w1⟩ := p
      rw [hg] at ok4
      simp only [Bool.and_eq_true, beq_iff_eq, decide_eq_true_eq] at ok4
      exact ⟨j, w1, rfl, ok4.1, ok4.2⟩
   obtain ⟨j, w1, hg, hw, hs⟩ := ok4'
   have hwant := Zbr T hg hw hs ht
   simp only [hwant]
   simp only [Bool.false_eq_true, if_false]
   refine k undef w ⟨u, rfl, ρ, S, Mv.refl _ _ _ _ _, T.heap, ?_, .inl ⟨rfl, .inr fun _ h => h⟩⟩
   rcases hu with rfl | ⟨a', rfl⟩
   · exact .und
   · exact .ifF a'
structure MvX (base B : Nat) (ρ : Rho) (S : Nat → Prop) (w : World) (ρ' : Rho) (S' : Nat → Prop) (w' : World) : Prop where
 same : ∀ b, b < base → ρ' b = ρ b
 sub : ∀ k, S k → S' k
 ext : Ext S w w'
 below : Below B w w'
 back : ∀ k, S' k → S k ∨ B ≤ k
theorem MvX.refl : MvX base B ρ S w ρ S w := ⟨fun _ _ => rfl, fun _ h => h, Ext.refl _ _, Below.refl _ _, fun _ h => .inl h⟩
theorem MvX.trans (a : MvX base B ρ S w ρ' S' w') (b : MvX base B ρ' S' w' ρ'' S'' w'') : MvX base B ρ S w ρ'' S'' w'' :=
 ⟨fun x hx => (b.same x hx).trans (a.same x hx), fun k e => b.sub k (a.sub k e), a.ext.trans a.sub b.ext, a.below.trans b.below, fun k hk => by rcases b.back k hk with h | h; exact a.back k h; exact .inr h⟩
theorem Mv.x {iv : Nat → Prop} (m : Mv B ρ S w ρ' S' w' iv) (h : ∀ b, iv b → base ≤ b) : MvX base B ρ S w ρ' S' w' := by
 refine ⟨fun b hb => ?_, m.sub, m.ext, m.below, m.back⟩
 cases hr : ρ b with
 | some l => exact m.le b l hr
 | none => exact m.new b hr (fun q => by have := h b q; omega)
theorem Zs4 {n : Nat} {op : AOp} {b : Nat} (h : lays tot n op b) : n ≤ b := by
 unfold lays at h
 split at h
 · omega
 · simp only [span] at h; omega
structure Fr (ρ : Rho) (tot n : Nat) (gs : List G) (is : List Nat) : Prop where
 at_ : ∀ i ∈ is, ∀ g, gs[i]? = some g → ∀ b, span (n + g.op.names.1) g.op.names.2 b → ρ b = none
 out : ∀ b, n + tot ≤ b → ρ b = none
theorem Fr.lays {n : Nat} {gs : List G} {is : List Nat} (f : Fr ρ tot n gs is) {i : Nat} (hi : i ∈ is) {g : G} (hg : gs[i]? = some g) : ∀ b, lays tot n g.op b → ρ b = none := by
 intro b hb
 unfold Vm.lays at hb
 split at hb
 · exact f.out b hb
 · exact f.at_ i hi g hg b hb
theorem Fr.step {gs : List G} {is js : List Nat} {i : Nat} {g : G} {n n' : Nat} (f : Fr ρ tot n gs is) (hi : i ∈ is) (hg : gs[i]? = some g) (hsub : ∀ k ∈ js, k ∈ is ∧ k ≠ i)
 (names : ∀ (i j : Nat) (gi gj : G), i ≠ j → gs[i]? = some gi → gs[j]? = some gj → ∀ n b, span (n + gj.op.names.1) gj.op.names.2 b → ¬ span (n + gi.op.names.1) gi.op.names.2 b) (inTot : ∀ (i : Nat) (g : G), gs[i]? = some g → g.op.names.2 ≠ 0 → g.op.names.1 + g.op.names.2 ≤ tot)
 {ρ' : Rho} (hnew : ∀ b, ρ b = none → ¬ Vm.lays tot n g.op b → ρ' b = none) (hn : (n' = n ∧ (g.op.isD = false ∨ ∀ b, ρ b = none → ρ' b = none)) ∨ (n ≤ n' ∧ ∀ b, n' ≤ b → ρ' b = none)) : Fr ρ' tot n' gs js := by
 rcases hn with ⟨rfl, hd⟩ | ⟨hle, hall⟩
 · have hkeep : ∀ b, ρ b = none → (g.op.isD = false → ¬ Vm.lays tot n' g.op b) → ρ' b = none := fun b hb hq => by
    rcases hd with hd | hd
    · exact hnew b hb (hq hd)
    · exact hd b hb
   refine ⟨fun k hk gk hgk b hb => ?_, fun b hb => ?_⟩
   · obtain ⟨h1, h2⟩ := hsub k hk
     refine hkeep b (f.at_ k h1 gk hgk b hb) (fun hd q => ?_)
     unfold Vm.lays at q
     rw [hd] at q
     simp only [Bool.false_eq_true, if_false] at q
     exact names i k g gk (fun e => h2 e.symm) hg hgk _ b hb q
   · refine hkeep b (f.out b hb) (fun hd q => ?_)
     unfold Vm.lays at q
     rw [hd] at q
     simp only [Bool.false_eq_true, if_false, span] at q
     have := inTot i g hg (by omega)
     omega
 · exact ⟨fun k hk gk hgk b hb => hall b (by simp only [span] at hb; omega), fun b hb => hall b (by omega)⟩
theorem Zb1 (hE : EnvOk P E) {ops : Array Oper} {gs : List G} {Q : Exit → Act → World → Prop} (hlen : gs.length = ops.size) (okg : ∀ (i : Nat) (o : Oper) (g : G), ops[i]? = some o → gs[i]? = some g → okG P N ops o g = true)
 (names : ∀ (i j : Nat) (gi gj : G), i ≠ j → gs[i]? = some gi → gs[j]? = some gj → ∀ n b, span (n + gj.op.names.1) gj.op.names.2 b → ¬ span (n + gi.op.names.1) gi.op.names.2 b) (inTot : ∀ (i : Nat) (g : G), gs[i]? = some g → g.op.names.2 ≠ 0 → g.op.names.1 + g.op.names.2 ≤ tot) {σf : St} :
 ∀ (rest : List G) (k : Nat) (ρ : Rho) (S : Nat → Prop) (σ : St) (a : Act) (w : World), gs.drop k = rest → k ≤ gs.length → SW P ρ S B N σ a w → Fr ρ tot σ.n gs (List.range' k rest.length) → base ≤ σ.n → Za E tot rest σ = some σf →
  (∀ ρ' S' a' w', MvX base B ρ S w ρ' S' w' → SW P ρ' S' B N σf a' w' → (∀ b, σf.n + tot ≤ b → ρ' b = none) → Q .normal a' w') → wpOps P ops Q (List.range' k rest.length) a w
 | [], k, ρ, S, σ, a, w, hd, hk, T, f, hb, e, q => by
   simp only [Za, Option.some.injEq] at e
   subst e
   exact q ρ S a w MvX.refl T f.out
 | g :: rest, k, ρ, S, σ, a, w, hd, hk, T, f, hb, e, q => by
   obtain ⟨σ1, h1, e1⟩ := Z3 e
   have hgk : gs[k]? = some g := by
    have := congrArg (·[0]?) hd
    simpa [List.getElem?_drop] using this
   have hkl : k < gs.length := (List.getElem?_eq_some_iff.1 hgk).1
   obtain ⟨o, ho⟩ : ∃ o, ops[k]? = some o := ⟨ops[k]'(by omega), Array.getElem?_eq_getElem (by omega)⟩
   have hok := okg k o g ho hgk
   have hmem : k ∈ List.range' k (g :: rest).length := by simp [List.mem_range']
   show wpOps P ops Q (List.range' k (rest.length + 1)) a w
   rw [List.range'_succ, wpOps_cons]
   refine Zfs hE ho T hok (f.lays hmem hgk) h1 (fun v w1 hf => ?_)
   simp only [okG, Bool.and_eq_true, decide_eq_true_eq] at hok
   rw [hok.1.1.2] at *
   obtain ⟨ρ1, S1, M, T1, hbase, hn⟩ := hf.SW T hok.1.2
   have hd' : gs.drop (k + 1) = rest := by
    have := congrArg List.tail hd
    simpa [List.tail_drop] using this
   have hsub : ∀ j ∈ List.range' (k + 1) rest.length, j ∈ List.range' k (g :: rest).length ∧ j ≠ k := by
    intro j hj
    simp only [List.mem_range'_1, List.length_cons] at hj ⊢
    omega
   have f1 := f.step hmem hgk hsub names inTot (fun b h1 h2 => M.new b h1 h2) hn
   refine Zb1 hE hlen okg names inTot rest (k + 1) ρ1 S1 σ1 _ w1 hd' (by omega) T1 f1 (by rcases hn with h | h <;> omega) e1 (fun ρ2 S2 a2 w2 M2 T2 h2 => q ρ2 S2 a2 w2 ((M.x (fun b hb' => by have := Zs4 hb'; omega)).trans M2) T2 h2)
end Go.Vm
set_option linter.unusedVariables false
set_option linter.unusedSimpArgs false
namespace Go.Vm
open Go.RowKit
variable {P : Program} {ρ ρ' ρ'' : Rho} {S S' S'' : Nat → Prop} {w w' w'' : World} {B N : Nat} {h : Hp} {E : Env} {tot base : Nat}
def Zgu (m : Nat → Nat) (o : Oper) : Nat := o.after.toList.foldl (fun s e => if Region.binds .any e then s ||| 2 ^ e.on ||| m e.on else s) 0
theorem Zf3 (m : Nat → Nat) (j : Nat) : ∀ (l : List Edge) (s : Nat), (l.foldl (fun s e => if Region.binds .any e then s ||| 2 ^ e.on ||| m e.on else s) s).testBit j = true →
 s.testBit j = true ∨ ∃ e ∈ l, Region.binds .any e = true ∧ (e.on = j ∨ (m e.on).testBit j = true)
 | [], s, h => .inl h
 | e :: l, s, h => by
   simp only [List.foldl_cons] at h
   rcases Zf3 m j l _ h with h | ⟨e', he, r⟩
   · split at h
     · rename_i hb
       simp only [Nat.testBit_or, Bool.or_eq_true, Nat.testBit_two_pow, decide_eq_true_eq] at h
       rcases h with (h | h) | h
       · exact .inl h
       · exact .inr ⟨e, by simp, hb, .inl h⟩
       · exact .inr ⟨e, by simp, hb, .inr h⟩
     · exact .inl h
   · exact .inr ⟨e', by simp [he], r⟩
theorem Zko {m : Nat → Nat} {o : Oper} {j : Nat} (h : (Zgu m o).testBit j = true) : ∃ e ∈ o.after, Region.binds .any e = true ∧ (e.on = j ∨ (m e.on).testBit j = true) := by
 rcases Zf3 m j _ 0 h with h | ⟨e, he, r⟩
 · simp at h
 · exact ⟨e, by simpa using he, r⟩
structure MaskOk (ops : Array Oper) (masks : Nat → Nat) : Prop where
 at_ : ∀ (i : Nat) (o : Oper), ops[i]? = some o → masks i = Zgu masks o
 edge : ∀ (i : Nat) (o : Oper), ops[i]? = some o → ∀ e ∈ o.after, Region.binds .any e = true → e.on < i
theorem Znh {ops : Array Oper} {masks : Nat → Nat} (M : MaskOk ops masks) {X : Nat → Prop} (hX : ∀ (i : Nat) (o : Oper), ops[i]? = some o → X i → ∀ e ∈ o.after, Region.binds .any e = true → X e.on) :
 ∀ (i : Nat) (o : Oper), ops[i]? = some o → (∀ e ∈ o.after, Region.binds .any e = true → X e.on) → ∀ j, (masks i).testBit j = true → X j := by
 intro i
 induction i using Nat.strongRecOn with
 | _ i ih =>
   intro o ho hpre j hj
   rw [M.at_ i o ho] at hj
   obtain ⟨e, he, hb, h⟩ := Zko hj
   have hXe := hpre e he hb
   rcases h with rfl | h
   · exact hXe
   · have hlt := M.edge i o ho e he hb
     have hi : i < ops.size := (Array.getElem?_eq_some_iff.1 ho).1
     have hoe : ops[e.on]? = some (ops[e.on]'(by omega)) := Array.getElem?_eq_getElem (by omega)
     exact ih e.on hlt _ hoe (hX e.on _ hoe hXe) j h
theorem Z8u {a : A} {x : Value} (r : R P ρ S w a x) : ∀ b, b ∈ nmX a ∨ b ∈ nmP a → ρ b ≠ none := by
 intro b hb
 have cells : ∀ (as : List A) (vs : List Value), RL P ρ S w as vs → b ∈ Zi as → ρ b ≠ none := fun as vs r h => Z4g r h
 cases r with
 | ref ty b' off len cap ex k sz c ad h1 =>
   simp [nmX, nmIn, A.cells, Zi, X7, nmP] at hb; subst hb; rw [h1]; simp
 | nil ty b' ex h1 => simp [nmX, nmIn, A.cells, Zi, X7, nmP] at hb; subst hb; rw [h1]; simp
 | ptr b' i j k sz h1 => simp [nmX, nmIn, A.cells, Zi, X7, nmP] at hb; subst hb; rw [h1]; simp
 | agg cs vs hl hr =>
   rcases hb with hb | hb
   · simp only [nmX, nmIn, A.cells, List.nil_append] at hb
     exact cells cs vs ⟨hl, hr⟩ hb
   · simp [nmP] at hb
 | fn f caps vs hp hl hr =>
   rcases hb with hb | hb
   · simp [nmX, nmIn, A.cells, Zi, X7] at hb
   · simp only [nmP] at hb
     have : ∀ (as : List A) (vs : List Value), Wf as = true → RL P ρ S w as vs → b ∈ Z5x as → ρ b ≠ none := by
      intro as
      induction as with
      | nil => intro vs _ _ h; simp [Z5x] at h
      | cons a as ih =>
        intro vs hp r h
        simp only [Wf, Bool.and_eq_true] at hp
        obtain ⟨x, xs, rfl, r1, r2⟩ := r.inv_cons
        simp only [Z5x, List.mem_append] at h
        rcases h with h | h
        · cases r1 with
          | ptr b' i j k sz h1 => simp [nmIn] at h; subst h; rw [h1]; simp
          | pl row j k o Y h1 h2 h3 => simp [nmIn] at h
          | _ => simp [Zmr] at hp
        · exact ih xs hp.2 r2 h
     exact this caps vs hp ⟨hl, hr⟩ hb
 | _ => simp [nmX, nmIn, A.cells, Zi, X7, nmP] at hb
theorem Y5c {σ : St} {a : Act} {gi : G} (T : SW P ρ S B N σ a w) (cl : gi.op.opds.all Wy = true) (hf : ∀ b, span (σ.n + gi.op.names.1) gi.op.names.2 b → ρ b = none) : Kn (fun b => ρ b ≠ none) gi σ := by
 refine ⟨fun x hx b hb => ?_, fun _ c hc k hk row hrow b hb => ?_, fun b hb => ?_⟩
 · cases x with
   | t n =>
     have r : R P ρ S w (ev (tauG gi σ) (.t n)) (a.tmps.getD n undef) := by
      cases gi with
      | o op => exact T.slot n
      | g s wt op => exact Zxm (T.slot n)
     exact Z8u r b hb
   | k v =>
     have : ev (tauG gi σ) (.k v) = v := by cases gi <;> rfl
     rw [this] at hb
     have hc := List.all_eq_true.1 cl _ hx
     obtain ⟨h1, h2⟩ := Z8x (a := v) hc
     rw [h1, h2] at hb
     simp at hb
 · rcases T.heap.at_ c k hk with ⟨k', sz, hb', hB⟩ | ⟨_, hr, _⟩
   · obtain ⟨cs, _, _, hcell⟩ := hB.here
     obtain ⟨i, hi⟩ := List.getElem?_of_mem hrow
     have : ∀ (r : List A) (j0 : Nat), (∀ (j : Nat) (x : A), r[j]? = some x → ∃ y, R P ρ S w x y) → b ∈ Zi r → ρ b ≠ none := by
      intro r
      induction r with
      | nil => intro _ _ h; simp [Zi] at h
      | cons x r ih =>
        intro j0 h hbm
        simp only [Zi, List.mem_append] at hbm
        rcases hbm with hbm | hbm
        · obtain ⟨y, hy⟩ := h 0 x rfl
          exact Za9 hy hbm
        · exact ih 0 (fun j x hx => h (j + 1) x (by simpa using hx)) hbm
     exact this row 0 (fun j x hx => by obtain ⟨y, _, hr⟩ := hcell i row j x hi hx; exact ⟨y, hr⟩) hb
   · rw [hr] at hrow; simp at hrow
 · cases hs : σ.h b with
   | none => rfl
   | some k => exact absurd (hf b hb) (T.heap.known hs)
theorem Zzy {N0 : List Nat} (hN : EnvKeep E N0) (hE : EnvOk P E) {ops : Array Oper} {gs : List G} {sep : List (Opd × Opd)} {masks : Nat → Nat} {Q : Exit → Act → World → Prop} (hlen : gs.length = ops.size) (okg : ∀ (i : Nat) (o : Oper) (g : G), ops[i]? = some o → gs[i]? = some g → okG P N ops o g = true)
 (RO : RegOk tot gs sep masks) (MO : MaskOk ops masks) {σf : St} (hs : seps σf sep = true) (hkp : Z13 σf N0 sep = true) :
 ∀ (fuel : Nat) (listed : Array Bool) (is : List Nat) (ρ : Rho) (S : Nat → Prop) (σ : St) (a : Act) (w : World), listed.size = ops.size → is.Pairwise (· < ·) → (∀ i, i ∈ is ↔ i < ops.size ∧ listed.getD i true = false) →
  (∀ (i : Nat) (o : Oper), ops[i]? = some o → listed.getD i true = true → ∀ e ∈ o.after, Region.binds .any e = true → listed.getD e.on true = true) → is.length ≤ fuel →
  SW P ρ S B N σ a w → Fr ρ tot σ.n gs is → base ≤ σ.n → Runs E tot gs is σ σf →
  (∀ ρ' S' a' w', MvX base B ρ S w ρ' S' w' → SW P ρ' S' B N σf a' w' → (∀ b, σf.n + tot ≤ b → ρ' b = none) → Q .normal a' w') → wpAny P .any ops Q fuel listed a w := by
 intro fuel
 induction fuel with
 | zero =>
   intro listed is ρ S σ a w hsz hpw hmem hcl hfu T f hb r q
   have hnil : is = [] := List.eq_nil_of_length_eq_zero (by omega)
   subst hnil
   cases r with
   | nil =>
     refine ⟨?_, q ρ S a w MvX.refl T f.out⟩
     unfold Region.ready
     rw [List.filter_eq_nil_iff]
     intro i hi
     simp only [List.mem_range] at hi
     have : listed.getD i true = true := by
      cases h : listed.getD i true with
      | true => rfl
      | false => have := (hmem i).2 ⟨hi, h⟩; simp at this
     rw [this]
     simp
 | succ fuel ih =>
   intro listed is ρ S σ a w hsz hpw hmem hcl hfu T f hb r q
   refine ⟨fun hr => ?_, fun i hi => ?_⟩
   · -- nothing is ready: all is done
     cases is with
     | nil =>
       cases r with
       | nil => exact q ρ S a w MvX.refl T f.out
     | cons i is =>
       exfalso
       obtain ⟨hi1, hi2⟩ := (hmem i).1 List.mem_cons_self
       have hmin : ∀ j, j < i → listed.getD j true = true := fun j hj => by
        cases hq : listed.getD j true with
        | true => rfl
        | false =>
          have hjm := (hmem j).2 ⟨by omega, hq⟩
          have hp := List.pairwise_cons.1 hpw
          rcases List.mem_cons.1 hjm with rfl | hjm
          · omega
          · have := hp.1 j hjm; omega
       have ho : ops[i]? = some ops[i] := Array.getElem?_eq_getElem hi1
       have : i ∈ Region.ready .any ops listed := mem_ready.2 ⟨hi2, _, ho, fun e he hbn => by
        have hlt := MO.edge i _ ho e he hbn
        have h1 := hmin e.on hlt
        have hes : e.on < listed.size := by omega
        simp [Array.getD, hes] at h1 ⊢
        exact h1⟩
       rw [hr] at this
       simp at this
   · obtain ⟨hun, o, ho, hpre⟩ := mem_ready.1 hi
     have hi1 : i < ops.size := (Array.getElem?_eq_some_iff.1 ho).1
     have him : i ∈ is := (hmem i).2 ⟨hi1, hun⟩
     obtain ⟨L1, L2, rfl⟩ := List.append_of_mem him
     obtain ⟨g, hg⟩ : ∃ g, gs[i]? = some g := ⟨gs[i]'(by omega), List.getElem?_eq_getElem (by omega)⟩
     have hok := okg i o g ho hg
     have hp2 := List.pairwise_append.1 hpw
     have hp3 := List.pairwise_cons.1 hp2.2.1
     have hl1 : ∀ j ∈ L1, j < i := fun j hj => hp2.2.2 j hj i List.mem_cons_self
     have getT : ∀ k, listed.getD k false = true → listed.getD k true = true := fun k hk => by
      by_cases hks : k < listed.size
      · simp [Array.getD, hks] at hk ⊢; exact hk
      · simp [Array.getD, hks] at hk
     have hmask : ∀ j ∈ L1, (masks i).testBit j = false := fun j hj => by
      cases hq : (masks i).testBit j with
      | false => rfl
      | true =>
        have := Znh MO (X := fun k => listed.getD k true = true) hcl i o ho (fun e he hbn => getT _ (hpre e he hbn)) j hq
        have hj2 := ((hmem j).1 (by simp [hj])).2
        rw [hj2] at this; cases this
     have kn := Y5c T (RO.clean i g hg) (f.at_ i him g hg)
     have hstab : ∀ t, (.t t ∈ g.op.rdOpds ∨ .t t ∈ g.op.mdOpds) → sep ≠ [] → σf.s t = σ.s t := fun t ht hne => by
      refine Zjr r RO.clean (fun k hk g' hg' => ?_)
      rcases List.mem_append.1 hk with hk | hk
      · -- an operation that i need not wait for
        have hpr := RO.pair k i g' g (hl1 k hk) hg' hg (hmask k hk)
        simp only [Zf6, Bool.and_eq_true] at hpr
        obtain ⟨s1, _, _⟩ := Wq hpr.1
        intro hd
        refine s1 t hd ?_
        have hin : .t t ∈ g.op.opds := by
         rcases ht with ht | ht
         · exact Vo _ ht
         · exact Z1j _ ht
        cases g with
        | o op => exact Z0s hin
        | g s wt op => exact List.mem_cons_of_mem _ (Z0s hin)
      · refine RO.stab hne i g hg t ht k g' ?_ hg'
        rcases List.mem_cons.1 hk with rfl | hk
        · exact Nat.le_refl _
        · exact Nat.le_of_lt (hp3.1 k hk)
     obtain ⟨σ1, hd, hr⟩ := Y6d hN RO hs hkp hg L1 L2 σ hl1 hp2.1 hp3.1 hmask (.inr ⟨kn, fun j hj gj hgj b hb' hk => hk (f.at_ j (by simp [hj]) gj hgj b hb'), fun b hb' hk => hk (f.out b hb')⟩) hstab r
     refine Zqg hE ho T hok (f.lays him hg) hd (fun v w1 hf => ?_)
     have hok' := hok
     simp only [okG, Bool.and_eq_true, decide_eq_true_eq] at hok'
     rw [hok'.1.1.2] at *
     obtain ⟨ρ1, S1, M, T1, hbase, hn⟩ := hf.SW T hok'.1.2
     have hnd : i ∉ L1 ++ L2 := fun hm => by
      rcases List.mem_append.1 hm with hm | hm
      · exact Nat.lt_irrefl _ (hl1 i hm)
      · exact Nat.lt_irrefl _ (hp3.1 i hm)
     have hsub : ∀ j ∈ L1 ++ L2, j ∈ L1 ++ i :: L2 ∧ j ≠ i := fun j hj => ⟨by
      rcases List.mem_append.1 hj with hj | hj
      · simp [hj]
      · simp [hj], fun q => hnd (q ▸ hj)⟩
     have f1 := f.step him hg hsub RO.names RO.inTot (fun b h1 h2 => M.new b h1 h2) hn
     have hil : i < listed.size := by omega
     have hset : ∀ k d, (listed.setIfInBounds i true).getD k d = if k = i then true else listed.getD k d := fun k d => by
      by_cases hk : k = i
      · subst hk; simp [Array.getD, hil]
      · rw [if_neg hk, getD_set_ne d (fun q => hk q.symm)]
     refine ih (listed.setIfInBounds i true) (L1 ++ L2) ρ1 S1 σ1 _ w1 (by simp [hsz]) ?_ (fun k => ?_) (fun k ok hok hk e he hbn => ?_) (by simp at hfu ⊢; omega) T1 f1 (by rcases hn with h | h <;> omega) hr (fun ρ2 S2 a2 w2 M2 T2 h2 => q ρ2 S2 a2 w2 ((M.x (fun b hb' => by have := Zs4 hb'; omega)).trans M2) T2 h2)
     · rw [List.pairwise_append]
       exact ⟨hp2.1, hp3.2, fun x hx y hy => hp2.2.2 x hx y (List.mem_cons_of_mem _ hy)⟩
     · rw [hset]
       constructor
       · intro hk
         have h1 := hsub k hk
         have h2 := (hmem k).1 h1.1
         exact ⟨h2.1, by rw [if_neg h1.2]; exact h2.2⟩
       · rintro ⟨h1, h2⟩
         by_cases hki : k = i
         · rw [if_pos hki] at h2; cases h2
         · rw [if_neg hki] at h2
           have := (hmem k).2 ⟨h1, h2⟩
           rcases List.mem_append.1 this with h | h
           · simp [h]
           · rcases List.mem_cons.1 h with h | h
             · exact absurd h hki
             · simp [h]
     · rw [hset] at hk ⊢
       split
       · rfl
       · by_cases hki : k = i
         · subst hki
           rw [ho] at hok
           cases hok
           exact getT _ (hpre e he hbn)
         · rw [if_neg hki] at hk
           exact hcl k ok hok hk e he hbn
end Go.Vm
set_option linter.unusedVariables false
set_option linter.unusedSimpArgs false
namespace Go.Vm
open Go.RowKit
def okGl (P : Program) (N : Nat) (ops : Array Oper) : List Oper → List G → Bool
 | [], [] => true
 | o :: os, g :: gs => okG P N ops o g && okGl P N ops os gs
 | _, _ => false
def Z79 (tot : Nat) : List G → Nat → Bool
 | [], c => decide (c ≤ tot)
 | g :: gs, c => (g.op.names.2 == 0 && Z79 tot gs c) || (g.op.names.1 == c && Z79 tot gs (c + g.op.names.2))
def Zzd (gs : List G) : Bool := gs.all fun g => g.op.opds.all Wy
def Zfh (m : Nat → Nat) : List Oper → Nat → Bool
 | [], _ => true
 | o :: os, i => (m i == Zgu m o) && o.after.toList.all (fun e => !Region.binds .any e || decide (e.on < i)) && Zfh m os (i + 1)
def Z8l (sep : List (Opd × Opd)) (mask : Nat) (g : G) : List G → Nat → Bool
 | [], _ => true
 | gj :: gs, j => (mask.testBit j || Zf6 sep gj g) && Z8l sep mask g gs (j + 1)
def Zgs (sep : List (Opd × Opd)) (m : Nat → Nat) (pre : List G) : List G → Nat → Bool
 | [], _ => true
 | g :: gs, i => Z8l sep (m i) g pre 0 && Zgs sep m (pre ++ [g]) gs (i + 1)
def Zp1 : List G → Bool
 | [] => true
 | g :: gs => (Z2e (g.op.rdOpds ++ g.op.mdOpds)).all (fun t => (g :: gs).all fun g' => g'.op.dst != some t) && Zp1 gs
def Zqt (ms : List Nat) (i : Nat) : Nat := ms.getD i 0
def Zpm (P : Program) (N tot : Nat) (sep : List (Opd × Opd)) (ops : Array Oper) (draw : Bool) (gs : List G) : Bool :=
 okGl P N ops ops.toList gs && Z79 tot gs 0 && (if draw then
  Zzd gs && Zfh (Zqt (Region.before ops).toList) ops.toList 0 && Zgs sep (Zqt (Region.before ops).toList) [] gs 0 && (sep.isEmpty || Zp1 gs)
 else sep.isEmpty)
def Zs5 (sep : List (Opd × Opd)) : Bool := sep.all fun p => match p.1, p.2 with
 | .t _, .k _ => false
 | _, _ => true
def Zy (P : Program) (N : Nat) : ACode → Code → Bool
 | .sk, .skip => true
 | .rg tot _ gs, .region _ ops draw => Zpm P N tot [] ops draw gs
 | .rgs tot sep gs, .region _ ops draw => Zpm P N tot sep ops draw gs && Zs5 sep
 | .rgk tot sep _ gs, .region _ ops draw => Zpm P N tot sep ops draw gs
 | .sq a b, .seq x y => Zy P N a x && Zy P N b y
 | .ite c a b, .cond c' x y => Ym c' c && Zy P N a x && Zy P N b y
 | .bl i c, .block j x => decide (i = j) && Zy P N c x
 | .lp _ c, .loop x => Zy P N c x
 | .xt i, .exit j => decide (i = j)
 | .rt, .ret => true
 | _, _ => false
variable {P : Program} {N tot : Nat} {ops : Array Oper}
theorem Ztj : ∀ {os : List Oper} {gs : List G}, okGl P N ops os gs = true → gs.length = os.length ∧ ∀ (i : Nat) (o : Oper) (g : G), os[i]? = some o → gs[i]? = some g → okG P N ops o g = true
 | [], [], _ => ⟨rfl, fun i o g h => by simp at h⟩
 | [], _ :: _, h => by simp [okGl] at h
 | _ :: _, [], h => by simp [okGl] at h
 | o :: os, g :: gs, h => by
   simp only [okGl, Bool.and_eq_true] at h
   obtain ⟨h1, h2⟩ := Ztj h.2
   refine ⟨by simp [h1], fun i o' g' e1 e2 => ?_⟩
   cases i with
   | zero => simp at e1 e2; subst e1; subst e2; exact h.1
   | succ i => exact h2 i o' g' (by simpa using e1) (by simpa using e2)
theorem Z68 : ∀ {gs : List G} {c : Nat}, Z79 tot gs c = true → (∀ (i : Nat) (g : G), gs[i]? = some g → g.op.names.2 ≠ 0 → c ≤ g.op.names.1 ∧ g.op.names.1 + g.op.names.2 ≤ tot) ∧ c ≤ tot ∧
 ∀ (i j : Nat) (gi gj : G), i < j → gs[i]? = some gi → gs[j]? = some gj → gi.op.names.2 ≠ 0 → gj.op.names.2 ≠ 0 → gi.op.names.1 + gi.op.names.2 ≤ gj.op.names.1
 | [], c, h => by
   simp only [Z79, decide_eq_true_eq] at h
   exact ⟨fun i g e => by simp at e, h, fun i j gi gj _ e => by simp at e⟩
 | g :: gs, c, h => by
   simp only [Z79, Bool.or_eq_true, Bool.and_eq_true, beq_iff_eq] at h
   rcases h with ⟨h0, h⟩ | ⟨h0, h⟩
   · obtain ⟨q1, q2, q3⟩ := Z68 h
     refine ⟨fun i g' e hne => ?_, q2, fun i j gi gj hij e1 e2 n1 n2 => ?_⟩
     · cases i with
       | zero => simp at e; subst e; exact absurd h0 hne
       | succ i => exact q1 i g' (by simpa using e) hne
     · cases j with
       | zero => omega
       | succ j =>
         cases i with
         | zero => simp at e1; subst e1; exact absurd h0 n1
         | succ i => exact q3 i j gi gj (by omega) (by simpa using e1) (by simpa using e2) n1 n2
   · obtain ⟨q1, q2, q3⟩ := Z68 h
     refine ⟨fun i g' e hne => ?_, by omega, fun i j gi gj hij e1 e2 n1 n2 => ?_⟩
     · cases i with
       | zero => simp at e; subst e; omega
       | succ i => have := q1 i g' (by simpa using e) hne; omega
     · cases j with
       | zero => omega
       | succ j =>
         cases i with
         | zero => simp at e1; subst e1; have := q1 j gj (by simpa using e2) n2; omega
         | succ i => exact q3 i j gi gj (by omega) (by simpa using e1) (by simpa using e2) n1 n2
theorem Zii {gs : List G} (h : Z79 tot gs 0 = true) : (∀ (i j : Nat) (gi gj : G), i ≠ j → gs[i]? = some gi → gs[j]? = some gj → ∀ n b, span (n + gj.op.names.1) gj.op.names.2 b → ¬ span (n + gi.op.names.1) gi.op.names.2 b) := by
 obtain ⟨q1, q2, q3⟩ := Z68 h
 intro i j gi gj hij e1 e2 n b s1 s2
 simp only [span] at s1 s2
 have n1 : gi.op.names.2 ≠ 0 := by omega
 have n2 : gj.op.names.2 ≠ 0 := by omega
 rcases Nat.lt_or_gt_of_ne hij with hlt | hgt
 · have := q3 i j gi gj hlt e1 e2 n1 n2; omega
 · have := q3 j i gj gi hgt e2 e1 n2 n1; omega
theorem Z9c {m : Nat → Nat} : ∀ {os : List Oper} {k : Nat}, Zfh m os k = true → ∀ (i : Nat) (o : Oper), os[i]? = some o → m (k + i) = Zgu m o ∧ ∀ e ∈ o.after, Region.binds .any e = true → e.on < k + i
 | [], k, _ => fun i o h => by simp at h
 | o :: os, k, h => by
   simp only [Zfh, Bool.and_eq_true, beq_iff_eq, List.all_eq_true, Bool.or_eq_true, Bool.not_eq_true', decide_eq_true_eq] at h
   intro i o' e
   cases i with
   | zero =>
     simp at e; subst e
     refine ⟨h.1.1, fun e he hb => ?_⟩
     rcases h.1.2 e (by simpa using he) with q | q
     · rw [hb] at q; cases q
     · exact q
   | succ i =>
     have := Z9c h.2 i o' (by simpa using e)
     rw [show k + (i + 1) = k + 1 + i by omega]
     exact this
theorem Zaa {sep : List (Opd × Opd)} {mask : Nat} {g : G} : ∀ {gs : List G} {k : Nat}, Z8l sep mask g gs k = true → ∀ (j : Nat) (gj : G), gs[j]? = some gj → mask.testBit (k + j) = false → Zf6 sep gj g = true
 | [], k, _ => fun j gj h => by simp at h
 | g' :: gs, k, h => by
   simp only [Z8l, Bool.and_eq_true, Bool.or_eq_true] at h
   intro j gj e hm
   cases j with
   | zero =>
     simp at e; subst e
     rcases h.1 with q | q
     · rw [Nat.add_zero] at hm; rw [hm] at q; cases q
     · exact q
   | succ j => exact Zaa h.2 j gj (by simpa using e) (by rw [show k + 1 + j = k + (j + 1) by omega]; exact hm)
theorem Zf4 {sep : List (Opd × Opd)} {m : Nat → Nat} : ∀ {gs pre : List G} {k : Nat}, pre.length = k → Zgs sep m pre gs k = true → ∀ (j i : Nat) (gj gi : G), j < k + i → gs[i]? = some gi → (pre ++ gs)[j]? = some gj → (m (k + i)).testBit j = false → Zf6 sep gj gi = true
 | [], pre, k, _, _ => fun j i gj gi _ h => by simp at h
 | g :: gs, pre, k, hl, h => by
   simp only [Zgs, Bool.and_eq_true] at h
   intro j i gj gi hji e1 e2 hm
   cases i with
   | zero =>
     simp at e1; subst e1
     have hj : j < pre.length := by omega
     rw [List.getElem?_append_left hj] at e2
     exact Zaa h.1 j gj e2 (by rw [Nat.zero_add]; simpa using hm)
   | succ i =>
     refine Zf4 (pre := pre ++ [g]) (k := k + 1) (by simp [hl]) h.2 j i gj gi (by omega) (by simpa using e1) ?_ (by rw [show k + 1 + i = k + (i + 1) by omega]; exact hm)
     rw [List.append_assoc]; exact e2
theorem Zjt : ∀ {gs : List G}, Zp1 gs = true → ∀ (i : Nat) (g : G), gs[i]? = some g → ∀ t, (.t t ∈ g.op.rdOpds ∨ .t t ∈ g.op.mdOpds) → ∀ (k : Nat) (g' : G), i ≤ k → gs[k]? = some g' → g'.op.dst ≠ some t
 | [], _ => fun i g h => by simp at h
 | g :: gs, h => by
   simp only [Zp1, Bool.and_eq_true, List.all_eq_true] at h
   intro i g0 e t ht k g' hk e'
   cases i with
   | zero =>
     simp at e; subst e
     have hin : t ∈ Z2e (g.op.rdOpds ++ g.op.mdOpds) := Z0s (by
      rcases ht with ht | ht
      · exact List.mem_append.2 (.inl ht)
      · exact List.mem_append.2 (.inr ht))
     have := h.1 t hin g' (List.mem_of_getElem? e')
     simpa using this
   | succ i =>
     cases k with
     | zero => omega
     | succ k => exact Zjt h.2 i g0 (by simpa using e) t ht k g' (by omega) (by simpa using e')
theorem Zq3 {sep : List (Opd × Opd)} {draw : Bool} {gs : List G} (h : Zpm P N tot sep ops draw gs = true) :
 gs.length = ops.size ∧ (∀ (i : Nat) (o : Oper) (g : G), ops[i]? = some o → gs[i]? = some g → okG P N ops o g = true) ∧
 (∀ (i j : Nat) (gi gj : G), i ≠ j → gs[i]? = some gi → gs[j]? = some gj → ∀ n b, span (n + gj.op.names.1) gj.op.names.2 b → ¬ span (n + gi.op.names.1) gi.op.names.2 b) ∧
 (∀ (i : Nat) (g : G), gs[i]? = some g → g.op.names.2 ≠ 0 → g.op.names.1 + g.op.names.2 ≤ tot) ∧
 (draw = false → sep = []) ∧ (draw = true → ∃ masks, RegOk tot gs sep masks ∧ MaskOk ops masks) := by
 simp only [Zpm, Bool.and_eq_true] at h
 obtain ⟨⟨h1, h2⟩, h3⟩ := h
 obtain ⟨g1, g2⟩ := Ztj h1
 have hnames := Zii h2
 have hin : ∀ (i : Nat) (g : G), gs[i]? = some g → g.op.names.2 ≠ 0 → g.op.names.1 + g.op.names.2 ≤ tot := fun i g e hne => ((Z68 h2).1 i g e hne).2
 refine ⟨by simpa using g1, fun i o g e1 e2 => g2 i o g (by simpa using e1) e2, hnames, hin, fun hd => ?_, fun hd => ?_⟩
 · subst hd
   simpa using h3
 · subst hd
   simp only [if_true, Bool.and_eq_true, Bool.or_eq_true, List.isEmpty_iff] at h3
   obtain ⟨⟨⟨c1, c2⟩, c3⟩, c4⟩ := h3
   refine ⟨Zqt (Region.before ops).toList, ⟨fun i g e => List.all_eq_true.1 c1 g (List.mem_of_getElem? e), hnames, hin, fun j i gj gi hji e1 e2 hm => ?_, fun hne => Zjt (c4.resolve_left hne)⟩, ⟨fun i o e => ?_, fun i o e => ?_⟩⟩
   · exact Zf4 (pre := []) (k := 0) rfl c3 j i gj gi (by omega) e2 (by simpa using e1) (by simpa using hm)
   · have := (Z9c c2 i o (by simpa using e)).1
     simpa using this
   · have := (Z9c c2 i o (by simpa using e)).2
     simpa using this
end Go.Vm
set_option linter.unusedVariables false
set_option linter.unusedSimpArgs false
namespace Go.Vm
open Go.RowKit
variable {P : Program} {ρ ρ' ρ'' : Rho} {S S' S'' : Nat → Prop} {w w' w'' : World} {B N : Nat} {h : Hp} {E : Env} {tot base : Nat}
theorem Lo.shr {h h' : Hp} (l : Lo base h) (s : Shr base h h') : Lo base h' := fun b hb k e hx b' hb' => by
 obtain ⟨k0, e0, x0, n0⟩ := s b hb k e hx
 exact l b hb k0 e0 x0 b' (n0 b' hb')
def Zr : Out → Exit → Prop
 | .norm _, .normal => True
 | .exit id _, .exit id' => id = id'
 | .ret _, .ret => True
 | _, _ => False
structure Post (P : Program) (base B N : Nat) (ρ : Rho) (S : Nat → Prop) (w : World) (out : Out) (e : Exit) (a' : Act) (w' : World) : Prop where
 ex : ∃ ρ' S', MvX base B ρ S w ρ' S' w' ∧ SW P ρ' S' B N out.st a' w' ∧ ∀ b, out.st.n ≤ b → ρ' b = none
 same : Zr out e
theorem Post.before {out : Out} {e : Exit} {a' : Act} (m : MvX base B ρ S w ρ' S' w') (p : Post P base B N ρ' S' w' out e a' w'') : Post P base B N ρ S w out e a' w'' := by
 obtain ⟨ρ2, S2, M, T, f⟩ := p.ex
 exact ⟨⟨ρ2, S2, m.trans M, T, f⟩, p.same⟩
theorem Z7h {c : Code} {Q Q' : Exit → Act → World → Prop} (hq : ∀ e a w, Q e a w → Q' e a w) : ∀ (n : Nat) (a : Act) (w : World), Code.rounds P c Q n a w → Code.rounds P c Q' n a w
 | 0, a, w, h => h
 | n + 1, a, w, h => by
   rw [rounds_succ] at h ⊢
   refine wp_mono h (fun e a w q => ?_)
   cases e <;> first | exact Z7h hq n a w q | exact hq _ _ _ q
theorem SW.drew {σ : St} {a : Act} (T : SW P ρ S B N σ a w) (e : w'.heap = w.heap) : SW P ρ S B N σ a w' :=
 ⟨fun t => R.mono (fun _ _ h => h) (fun _ h => h) (Ext.of_heap e) (T.slot t), T.size, T.defers, T.heap.of_heap e, by rw [e]; exact T.le⟩
theorem Z3v {N0 : List Nat} (hN : EnvKeep E N0) (hE : EnvOk P E) (hm : P.follows .mixedOrders = true) {id : Nat} {ops : Array Oper} {draw : Bool} {gs : List G} {sep : List (Opd × Opd)} (ok : Zpm P N tot sep ops draw gs = true) {σ σf : St} {a : Act} {nb : Nat} (T : SW P ρ S B N σ a w) (f : ∀ b, σ.n ≤ b → ρ b = none) (hb : nb ≤ σ.n)
 (e : Za E tot gs σ = some σf) (hs : seps σf sep = true) (hkp : Z13 σf N0 sep = true) : (Code.region id ops draw).wp P (Post P nb B N ρ S w (.norm { σf with n := σf.n + tot })) a w := by
 obtain ⟨g1, g2, g3, g4, g5, g6⟩ := Zq3 ok
 have hQ : ∀ (w0 : World), MvX nb B ρ S w ρ S w0 → ∀ ρ' S' a' w', MvX nb B ρ S w0 ρ' S' w' → SW P ρ' S' B N σf a' w' → (∀ b, σf.n + tot ≤ b → ρ' b = none) → Post P nb B N ρ S w (.norm { σf with n := σf.n + tot }) .normal a' w' :=
  fun w0 m0 ρ' S' a' w' M T' f' => ⟨⟨ρ', S', m0.trans M, ⟨T'.slot, T'.size, T'.defers, T'.heap, T'.le⟩, f'⟩, trivial⟩
 have fr : ∀ is, Fr ρ tot σ.n gs is := fun is => ⟨fun i hi g hg b hb => f b (by simp only [span] at hb; omega), fun b hb => f b (by omega)⟩
 cases draw with
 | false =>
   refine wp_region ?_
   have hrange : List.range ops.size = List.range' 0 gs.length := by rw [g1, List.range_eq_range']
   rw [hrange]
   exact Zb1 hE g1 g2 g3 g4 gs 0 ρ S σ a w rfl (by omega) T (fr _) hb e (hQ w MvX.refl)
 | true =>
   obtain ⟨masks, RO, MO⟩ := g6 rfl
   refine wp_region_any hm ?_
   have runs : ∀ (rest : List G) (k : Nat) (τ : St), gs.drop k = rest → Za E tot rest τ = some σf → Runs E tot gs (List.range' k rest.length) τ σf := by
    intro rest
    induction rest with
    | nil =>
      intro k τ _ e
      simp only [Za, Option.some.injEq] at e
      subst e
      exact .nil _
    | cons g rest ih =>
      intro k τ hd e
      obtain ⟨σ1, h1, e1⟩ := Z3 e
      have hgk : gs[k]? = some g := by
       have := congrArg (·[0]?) hd
       simpa [List.getElem?_drop] using this
      have hd' : gs.drop (k + 1) = rest := by
       have := congrArg List.tail hd
       simpa [List.tail_drop] using this
      rw [List.length_cons, List.range'_succ]
      exact .cons hgk (Zq4 h1) (ih (k + 1) σ1 hd' e1)
   refine Zzy (base := nb) hN hE g1 g2 RO MO hs hkp ops.size (Array.replicate ops.size false) (List.range' 0 gs.length) ρ S σ a _ (by simp) (List.pairwise_lt_range') (fun i => ?_) (fun i o ho hl => ?_) (by simp [g1]) (T.drew rfl) (fr _) hb (runs gs 0 σ rfl e) (hQ _ ⟨fun _ _ => rfl, fun _ h => h, Ext.of_heap rfl, ⟨rfl, rfl, rfl, Nat.le_refl _, fun _ _ => rfl⟩, fun _ h => .inl h⟩)
   · rw [List.mem_range'_1, g1]
     by_cases hi : i < ops.size <;> simp [Array.getD, hi]
   · have hi : i < ops.size := (Array.getElem?_eq_some_iff.1 ho).1
     simp [Array.getD, hi] at hl
theorem Zbd {σ : St} {N0 : List Nat} : ∀ {sep : List (Opd × Opd)}, Zs5 sep = true → Z13 σ N0 sep = true
 | [], _ => rfl
 | p :: ps, h => by
   simp only [Zs5, List.all_cons, Bool.and_eq_true] at h
   have ih := Zbd (σ := σ) (N0 := N0) (sep := ps) h.2
   obtain ⟨p1, p2⟩ := p
   cases p1 with
   | k a => simpa [Z13] using ih
   | t a => cases p2 with
     | t b => simpa [Z13] using ih
     | k b => simp at h
theorem EnvKeep.none (hS : Z1f E) : EnvKeep E [] := ⟨fun f as h n r e b hb => by simp at hb, fun f as h n r e => (hS.1 f as h n r.1 r.2.1 r.2.2 e).2⟩
theorem Zou (hS : Z1f E) (N0 : List Nat) : EnvKeep (chk E N0) N0 := ⟨fun f as h n r e => (Zba e).2, fun f as h n r e => (hS.1 f as h n r.1 r.2.1 r.2.2 (Zba e).1).2⟩
theorem Zyb (hE : EnvOk P E) (N0 : List Nat) : EnvOk P (chk E N0) :=
 ⟨hE.call, hE.enter, fun f ρ S w B as xs h n rs h' n' e => hE.dc f ρ S w B as xs h n rs h' n' (Zba e).1, fun f as h n r e => hE.dcEnter f as h n r (Zba e).1, hE.df, hE.dfEnter⟩
theorem Zf5 (hS : Z1f E) {L : List Nat} {c : ACode} {x : Code} (body : ∀ (ρ : Rho) (S : Nat → Prop) (σ : St) (a : Act) (w : World) (out : Out), exec E c σ = some out → SW P ρ S B N σ a w → (∀ b, σ.n ≤ b → ρ b = none) → σ.base ≤ σ.n → Lo σ.base σ.h → x.wp P (Post P σ.base B N ρ S w out) a w) :
 ∀ (k : Nat) (ρ : Rho) (S : Nat → Prop) (σ : St) (a : Act) (w : World) (out : Out), Z9 (exec E c) L k σ = some out → SW P ρ S B N σ a w → (∀ b, σ.n ≤ b → ρ b = none) → σ.base ≤ σ.n → Lo σ.base σ.h → Code.rounds P x (Post P σ.base B N ρ S w out) k a w
 | 0, ρ, S, σ, a, w, out, e, _, _, _, _ => by cases e
 | k + 1, ρ, S, σ, a, w, out, e, T, f, hb, lo => by
   rw [rounds_succ]
   rcases Z6c e with ⟨σ1, h1, e1⟩ | ⟨h1, hno⟩
   · have kx := Wp hS c σ _ hb h1
     simp only [Out.st] at kx
     refine wp_mono (body ρ S σ a w _ h1 T f hb lo) (fun ex a1 w1 p => ?_)
     obtain ⟨ρ1, S1, M1, T1, f1⟩ := p.ex
     have hsame := p.same
     cases ex <;> simp only [Zr] at hsame
     simp only [Exit.then]
     obtain ⟨σ2, h2, e2⟩ := Z3 e1
     simp only [Out.st] at T1 f1
     obtain ⟨ρ2, T2, s2, f2, b2, n2⟩ := Zc0 T1 (by rw [kx.base]; exact lo.shr kx.shr) h2
     have hbase : σ2.base = σ.base := b2.trans kx.base
     have lo2 : Lo σ2.base σ2.h := by
      obtain ⟨c1, c2, c3⟩ := Z86 h2
      rw [hbase]
      rw [kx.base] at c3
      exact (lo.shr kx.shr).shr c3
     have r := Zf5 hS body k ρ2 S1 σ2 a1 w1 out e2 T2 f2 (by rw [b2]; exact n2) lo2
     rw [hbase] at r
     have M2 : MvX σ.base B ρ S w ρ2 S1 w1 := M1.trans ⟨fun b hb => s2 b (by rw [kx.base]; exact hb), fun _ h => h, Ext.refl _ _, Below.refl _ _, fun _ h => .inl h⟩
     exact Z7h (fun ex a w q => q.before M2) k a1 w1 r
   · refine wp_mono (body ρ S σ a w _ h1 T f hb lo) (fun ex a1 w1 p => ?_)
     have hsame := p.same
     cases ex <;> first | exact p | skip
     cases out with
     | norm σ1 => exact absurd rfl (hno σ1)
     | _ => simp [Zr] at hsame
theorem Z67 (hE : EnvOk P E) (hS : Z1f E) (hm : P.follows .mixedOrders = true) : ∀ (c : ACode) (x : Code), Zy P N c x = true → ∀ (ρ : Rho) (S : Nat → Prop) (σ : St) (a : Act) (w : World) (out : Out), exec E c σ = some out → SW P ρ S B N σ a w → (∀ b, σ.n ≤ b → ρ b = none) → σ.base ≤ σ.n → Lo σ.base σ.h →
 x.wp P (Post P σ.base B N ρ S w out) a w := by
 intro c
 induction c with
 | sk =>
   intro x ok ρ S σ a w out e T f hb lo
   cases x <;> simp only [Zy, Bool.false_eq_true] at ok
   simp only [exec, Option.some.injEq] at e
   subst e
   exact wp_skip ⟨⟨ρ, S, MvX.refl, T, f⟩, trivial⟩
 | rg tot dr gs =>
   intro x ok ρ S σ a w out e T f hb lo
   cases x <;> simp only [Zy, Bool.false_eq_true] at ok
   obtain ⟨σ1, h1, rfl⟩ := Z28 e
   exact Z3v (EnvKeep.none hS) hE hm ok T f hb h1 rfl rfl
 | rgs tot sep gs =>
   intro x ok ρ S σ a w out e T f hb lo
   cases x <;> simp only [Zy, Bool.false_eq_true, Bool.and_eq_true] at ok
   obtain ⟨σ1, h1, rfl⟩ := Z28 e
   obtain ⟨σ2, h2, h3⟩ := Z3 h1
   cases hs : seps σ2 sep with
   | false => rw [hs] at h3; cases h3
   | true =>
     rw [hs] at h3
     simp only [cond_true, Option.some.injEq] at h3
     subst h3
     exact Z3v (EnvKeep.none hS) hE hm ok.1 T f hb h2 hs (Zbd ok.2)
 | rgk tot sep keep gs =>
   intro x ok ρ S σ a w out e T f hb lo
   cases x <;> simp only [Zy, Bool.false_eq_true] at ok
   obtain ⟨σ1, h1, rfl⟩ := Z28 e
   obtain ⟨σ2, h2, h3⟩ := Z3 h1
   cases hs : seps σ2 sep && Z13 σ2 (Z1w σ keep) sep with
   | false => rw [hs] at h3; cases h3
   | true =>
     rw [hs] at h3
     simp only [Bool.and_eq_true] at hs
     simp only [cond_true, Option.some.injEq] at h3
     subst h3
     exact Z3v (Zou hS _) (Zyb hE _) hm ok T f hb h2 hs.1 hs.2
 | sq c1 c2 ih1 ih2 =>
   intro x ok ρ S σ a w out e T f hb lo
   cases x <;> simp only [Zy, Bool.false_eq_true, Bool.and_eq_true] at ok
   refine wp_seq ?_
   rcases Z6c e with ⟨σ1, h1, e1⟩ | ⟨h1, hno⟩
   · have kx := Wp hS c1 σ _ hb h1
     simp only [Out.st] at kx
     refine wp_mono (ih1 _ ok.1 ρ S σ a w _ h1 T f hb lo) (fun ex a1 w1 p => ?_)
     obtain ⟨ρ1, S1, M1, T1, f1⟩ := p.ex
     have hsame := p.same
     cases ex <;> simp only [Zr] at hsame
     simp only [Exit.then]
     have r := ih2 _ ok.2 ρ1 S1 σ1 a1 w1 out e1 T1 f1 kx.n (by rw [kx.base]; exact lo.shr kx.shr)
     rw [kx.base] at r
     exact wp_mono r (fun ex a w q => q.before M1)
   · refine wp_mono (ih1 _ ok.1 ρ S σ a w _ h1 T f hb lo) (fun ex a1 w1 p => ?_)
     have hsame := p.same
     cases ex <;> first | exact p | skip
     cases out with
     | norm σ1 => exact absurd rfl (hno σ1)
     | _ => simp [Zr] at hsame
 | ite cnd c1 c2 ih1 ih2 =>
   intro x ok ρ S σ a w out e T f hb lo
   cases x <;> simp only [Zy, Bool.false_eq_true, Bool.and_eq_true] at ok
   obtain ⟨⟨o1, o2⟩, o3⟩ := ok
   obtain ⟨q, hq, e1⟩ := Z3 e
   have r := Zbi T.slot o1
   rw [Znd hq] at r
   refine wp_cond (t := q) (R.v_inv r).1 ?_
   cases q with
   | true => exact ih1 _ o2 ρ S σ a w out e1 T f hb lo
   | false => exact ih2 _ o3 ρ S σ a w out e1 T f hb lo
 | bl id c ih =>
   intro x ok ρ S σ a w out e T f hb lo
   cases x <;> simp only [Zy, Bool.false_eq_true, Bool.and_eq_true, decide_eq_true_eq] at ok
   obtain ⟨rfl, ok⟩ := ok
   refine wp_block ?_
   simp only [exec] at e
   unfold blO at e
   split at e
   · rename_i id' σ1 h1
     refine wp_mono (ih _ ok ρ S σ a w _ h1 T f hb lo) (fun ex a1 w1 p => ?_)
     have hsame := p.same
     cases ex <;> simp only [Zr] at hsame
     subst hsame
     simp only [Exit.inBlock]
     split at e
     · rename_i hid
       simp only [Option.some.injEq] at e
       subst e
       rw [if_pos hid]
       exact ⟨p.ex, trivial⟩
     · rename_i hid
       simp only [Option.some.injEq] at e
       subst e
       rw [if_neg hid]
       exact p
   · rename_i hno
     refine wp_mono (ih _ ok ρ S σ a w _ e T f hb lo) (fun ex a1 w1 p => ?_)
     have hsame := p.same
     cases ex <;> first | exact p | skip
     cases out with
     | exit id' σ1 => exact absurd e (hno id' σ1)
     | _ => simp [Zr] at hsame
 | lp L c ih =>
   intro x ok ρ S σ a w out e T f hb lo
   cases x <;> simp only [Zy, Bool.false_eq_true] at ok
   obtain ⟨σ1, h1, e1⟩ := Z3 e
   obtain ⟨ρ2, T2, s2, f2, b2, n2⟩ := Zc0 T lo h1
   obtain ⟨c1, c2, c3⟩ := Z86 h1
   have r := Zf5 hS (fun ρ S σ a w out => ih _ ok ρ S σ a w out) rounds ρ2 S σ1 a w out e1 T2 f2 (by rw [b2]; exact n2) (by rw [b2]; exact lo.shr c3)
   rw [b2] at r
   have M2 : MvX σ.base B ρ S w ρ2 S w := ⟨s2, fun _ h => h, Ext.refl _ _, Below.refl _ _, fun _ h => .inl h⟩
   exact wp_loop_rounds rounds (Z7h (fun ex a w q => q.before M2) _ a w r)
 | xt id =>
   intro x ok ρ S σ a w out e T f hb lo
   cases x <;> simp only [Zy, Bool.false_eq_true, decide_eq_true_eq] at ok
   subst ok
   simp only [exec, Option.some.injEq] at e
   subst e
   exact wp_exit ⟨⟨ρ, S, MvX.refl, T, f⟩, rfl⟩
 | rt =>
   intro x ok ρ S σ a w out e T f hb lo
   cases x <;> simp only [Zy, Bool.false_eq_true] at ok
   simp only [exec, Option.some.injEq] at e
   subst e
   exact wp_ret ⟨⟨ρ, S, MvX.refl, T, f⟩, trivial⟩
 | no why =>
   intro x ok ρ S σ a w out e T f hb lo
   cases e
theorem Zrj (hE : EnvOk P E) (hS : Z1f E) (hm : P.follows .mixedOrders = true) : ∀ (c : ACode) (x : Code), Zy P N c x = true → noLp c = true → ∀ (nb : Nat) (ρ : Rho) (S : Nat → Prop) (σ : St) (a : Act) (w : World) (out : Out), exec E c σ = some out → SW P ρ S B N σ a w → (∀ b, σ.n ≤ b → ρ b = none) → nb ≤ σ.n → σ.base ≤ σ.n →
 x.wp P (Post P nb B N ρ S w out) a w := by
 intro c
 induction c with
 | sk =>
   intro x ok fl nb ρ S σ a w out e T f hn hb
   cases x <;> simp only [Zy, Bool.false_eq_true] at ok
   simp only [exec, Option.some.injEq] at e
   subst e
   exact wp_skip ⟨⟨ρ, S, MvX.refl, T, f⟩, trivial⟩
 | rg tot dr gs =>
   intro x ok fl nb ρ S σ a w out e T f hn hb
   cases x <;> simp only [Zy, Bool.false_eq_true] at ok
   obtain ⟨σ1, h1, rfl⟩ := Z28 e
   exact Z3v (EnvKeep.none hS) hE hm ok T f hn h1 rfl rfl
 | rgs tot sep gs =>
   intro x ok fl nb ρ S σ a w out e T f hn hb
   cases x <;> simp only [Zy, Bool.false_eq_true, Bool.and_eq_true] at ok
   obtain ⟨σ1, h1, rfl⟩ := Z28 e
   obtain ⟨σ2, h2, h3⟩ := Z3 h1
   cases hs : seps σ2 sep with
   | false => rw [hs] at h3; cases h3
   | true =>
     rw [hs] at h3
     simp only [cond_true, Option.some.injEq] at h3
     subst h3
     exact Z3v (EnvKeep.none hS) hE hm ok.1 T f hn h2 hs (Zbd ok.2)
 | rgk tot sep keep gs =>
   intro x ok fl nb ρ S σ a w out e T f hn hb
   cases x <;> simp only [Zy, Bool.false_eq_true] at ok
   obtain ⟨σ1, h1, rfl⟩ := Z28 e
   obtain ⟨σ2, h2, h3⟩ := Z3 h1
   cases hs : seps σ2 sep && Z13 σ2 (Z1w σ keep) sep with
   | false => rw [hs] at h3; cases h3
   | true =>
     rw [hs] at h3
     simp only [Bool.and_eq_true] at hs
     simp only [cond_true, Option.some.injEq] at h3
     subst h3
     exact Z3v (Zou hS _) (Zyb hE _) hm ok T f hn h2 hs.1 hs.2
 | sq c1 c2 ih1 ih2 =>
   intro x ok fl nb ρ S σ a w out e T f hn hb
   cases x <;> simp only [Zy, Bool.false_eq_true, Bool.and_eq_true] at ok
   simp only [noLp, Bool.and_eq_true] at fl
   refine wp_seq ?_
   rcases Z6c e with ⟨σ1, h1, e1⟩ | ⟨h1, hno⟩
   · have kx := Wp hS c1 σ _ hb h1
     have kn := Z4q hS c1 σ _ fl.1 hb h1
     simp only [Out.st] at kx kn
     refine wp_mono (ih1 _ ok.1 fl.1 nb ρ S σ a w _ h1 T f hn hb) (fun ex a1 w1 p => ?_)
     obtain ⟨ρ1, S1, M1, T1, f1⟩ := p.ex
     have hsame := p.same
     cases ex <;> simp only [Zr] at hsame
     simp only [Exit.then]
     have r := ih2 _ ok.2 fl.2 nb ρ1 S1 σ1 a1 w1 out e1 T1 f1 (Nat.le_trans hn kn) kx.n
     exact wp_mono r (fun ex a w q => q.before M1)
   · refine wp_mono (ih1 _ ok.1 fl.1 nb ρ S σ a w _ h1 T f hn hb) (fun ex a1 w1 p => ?_)
     have hsame := p.same
     cases ex <;> first | exact p | skip
     cases out with
     | norm σ1 => exact absurd rfl (hno σ1)
     | _ => simp [Zr] at hsame
 | ite cnd c1 c2 ih1 ih2 =>
   intro x ok fl nb ρ S σ a w out e T f hn hb
   cases x <;> simp only [Zy, Bool.false_eq_true, Bool.and_eq_true] at ok
   obtain ⟨⟨o1, o2⟩, o3⟩ := ok
   simp only [noLp, Bool.and_eq_true] at fl
   obtain ⟨q, hq, e1⟩ := Z3 e
   have r := Zbi T.slot o1
   rw [Znd hq] at r
   refine wp_cond (t := q) (R.v_inv r).1 ?_
   cases q with
   | true => exact ih1 _ o2 fl.1 nb ρ S σ a w out e1 T f hn hb
   | false => exact ih2 _ o3 fl.2 nb ρ S σ a w out e1 T f hn hb
 | bl id c ih =>
   intro x ok fl nb ρ S σ a w out e T f hn hb
   cases x <;> simp only [Zy, Bool.false_eq_true, Bool.and_eq_true, decide_eq_true_eq] at ok
   obtain ⟨rfl, ok⟩ := ok
   refine wp_block ?_
   simp only [exec] at e
   unfold blO at e
   split at e
   · rename_i id' σ1 h1
     refine wp_mono (ih _ ok fl nb ρ S σ a w _ h1 T f hn hb) (fun ex a1 w1 p => ?_)
     have hsame := p.same
     cases ex <;> simp only [Zr] at hsame
     subst hsame
     simp only [Exit.inBlock]
     split at e
     · rename_i hid
       simp only [Option.some.injEq] at e
       subst e
       rw [if_pos hid]
       exact ⟨p.ex, trivial⟩
     · rename_i hid
       simp only [Option.some.injEq] at e
       subst e
       rw [if_neg hid]
       exact p
   · rename_i hno
     refine wp_mono (ih _ ok fl nb ρ S σ a w _ e T f hn hb) (fun ex a1 w1 p => ?_)
     have hsame := p.same
     cases ex <;> first | exact p | skip
     cases out with
     | exit id' σ1 => exact absurd e (hno id' σ1)
     | _ => simp [Zr] at hsame
 | lp L c ih =>
   intro x ok fl
   cases fl
 | xt id =>
   intro x ok fl nb ρ S σ a w out e T f hn hb
   cases x <;> simp only [Zy, Bool.false_eq_true, decide_eq_true_eq] at ok
   subst ok
   simp only [exec, Option.some.injEq] at e
   subst e
   exact wp_exit ⟨⟨ρ, S, MvX.refl, T, f⟩, rfl⟩
 | rt =>
   intro x ok fl nb ρ S σ a w out e T f hn hb
   cases x <;> simp only [Zy, Bool.false_eq_true] at ok
   simp only [exec, Option.some.injEq] at e
   subst e
   exact wp_ret ⟨⟨ρ, S, MvX.refl, T, f⟩, trivial⟩
 | no why =>
   intro x ok fl nb ρ S σ a w out e T f hn hb
   cases e
end Go.Vm
set_option linter.unusedVariables false
set_option linter.unusedSimpArgs false
namespace Go.Vm
open Go.RowKit
variable {P : Program} {ρ ρ' ρ'' : Rho} {S S' S'' : Nat → Prop} {w w' w'' : World} {B N : Nat} {h : Hp} {E : Env} {tot base : Nat}
def Z6i (P : Program) : List ResultVar → List RVar → Bool
 | [], [] => true
 | .tmp t :: xs, .t u :: ys => decide (t = u) && Z6i P xs ys
 | .cell a t :: xs, .cell b n g :: ys => decide (a = b) && decide (n = P.cellsOf t) && decide (g = aggT P t) && hasT P t && Z6i P xs ys
 | _, _ => false
def okFn (P : Program) (f : Nat) (fn : AFn) : Bool :=
 match P.funcs[f]? with
 | some F => (match F.body with
   | some c => Zy P F.ntmps fn.code c
   | none => false) && Z6i P F.results.toList fn.res && (F.name != "runtime.NumGoroutine")
 | none => false
def Zr2 (tmps : Array Value) : ResultVar → Sem Value
 | .tmp t => pure (tmps.getD t undef)
 | .cell a t => do loadVar t (← asAddr (tmps.getD a undef))
theorem Zte (H : HR P ρ S w B h) {σ : St} (hσ : σ.h = h) {tmps : Array Value} (hs : ∀ t, R P ρ S w (σ.s t) (tmps.getD t undef)) : ∀ {rs : List ResultVar} {rv : List RVar} {as : List A}, Z6i P rs rv = true → Z47 σ rv = some as →
 ∃ vs, (rs.mapM (Zr2 tmps)).run P w = .ok vs w ∧ RL P ρ S w as vs
 | [], rv, as, ok, e => by
   cases rv with
   | nil => simp only [Z47, Option.some.injEq] at e; subst e; exact ⟨[], rfl, .nil⟩
   | cons r rv => simp [Z6i] at ok
 | r :: rs, rv, as, ok, e => by
   cases rv with
   | nil => cases r <;> simp [Z6i] at ok
   | cons v rv =>
     obtain ⟨x, hx, e1⟩ := Z3 e
     obtain ⟨xs, hxs, e2⟩ := Z3 e1
     simp only [Option.some.injEq] at e2
     subst e2
     have one : Z6i P rs rv = true ∧ ∃ y, (Zr2 tmps r).run P w = .ok y w ∧ R P ρ S w x y := by
      cases r with
      | tmp t =>
        cases v with
        | t u =>
          simp only [Z6i, Bool.and_eq_true, decide_eq_true_eq] at ok
          obtain ⟨rfl, ok⟩ := ok
          simp only [Zs7, Option.some.injEq] at hx
          subst hx
          exact ⟨ok, _, rfl, hs t⟩
        | cell b n g => simp [Z6i] at ok
      | cell a t =>
        cases v with
        | t u => simp [Z6i] at ok
        | cell b n g =>
          simp only [Z6i, Bool.and_eq_true, decide_eq_true_eq] at ok
          obtain ⟨⟨⟨⟨rfl, rfl⟩, rfl⟩, hT⟩, ok⟩ := ok
          obtain ⟨⟨row, j⟩, hrow, hx⟩ := Z3 hx
          subst hσ
          obtain ⟨k, o', hpe, hcell⟩ := Zcq H hrow (hs a)
          obtain ⟨y, hy, hr⟩ := Zo7 hT hcell hx
          refine ⟨ok, y, ?_, hr⟩
          simp only [Zr2, hpe, asAddr, Sem.run_bind]
          exact hy
     obtain ⟨ok', y, hy, hr⟩ := one
     obtain ⟨ys, hys, hrs⟩ := Zte H hσ hs ok' hxs
     refine ⟨y :: ys, ?_, .cons hr hrs⟩
     rw [List.mapM_cons]
     simp only [Sem.run_bind, hy, Result.andThen_ok, hys]
     rfl
theorem Z72 (H : HR P ρ S w B h) {σ : St} (hσ : σ.h = h) {tmps : Array Value} (hs : ∀ t, R P ρ S w (σ.s t) (tmps.getD t undef)) {F : Func} {rv : List RVar} {as : List A} (ok : Z6i P F.results.toList rv = true) (e : Z47 σ rv = some as) :
 ∃ vs, (results F tmps).run P w = .ok (Zpi vs) w ∧ RL P ρ S w as vs := by
 obtain ⟨vs, h1, h2⟩ := Zte H hσ hs ok e
 refine ⟨vs, ?_, h2⟩
 have h0 : results F tmps = (F.results.mapM (Zr2 tmps) >>= fun vs => pure (if h : vs.size = 1 then vs[0] else .tuple vs)) := by
  unfold results
  congr 1
 rw [h0]
 rw [Array.mapM_eq_mapM_toList]
 simp only [Sem.run_bind]
 have : (Sem.run P (List.toArray <$> F.results.toList.mapM (Zr2 tmps)) w) = .ok vs.toArray w := by
  rw [map_eq_pure_bind, Sem.run_bind, h1]
  rfl
 rw [this]
 simp only [Result.andThen_ok]
 show Result.ok _ w = _
 congr 1
 match vs with
 | [] => rfl
 | [x] => rfl
 | x :: y :: vs => simp [Zpi]
theorem Zns {as : List A} {xs : List Value} (r : RL P ρ S w as xs) (n : Nat) (t : Nat) : R P ρ S w (slots as t) ((xs.toArray ++ Array.replicate n undef).getD t undef) := by
 unfold slots
 rw [List.getD_eq_getElem?_getD, Array.getD_eq_getD_getElem?]
 by_cases ht : t < as.length
 · have h2 : t < xs.length := by rw [r.len]; exact ht
   rw [List.getElem?_eq_getElem ht, Array.getElem?_append_left (by simpa using h2)]
   simp only [Option.getD_some, List.getElem?_toArray, List.getElem?_eq_getElem h2]
   exact r.at_ t _ _ (List.getElem?_eq_getElem ht) (List.getElem?_eq_getElem h2)
 · rw [List.getElem?_eq_none (by omega)]
   have : ((xs.toArray ++ Array.replicate n undef)[t]?).getD undef = undef := by
    rw [Array.getElem?_append_right (by simp; have := r.len; omega)]
    simp only [Array.getElem?_replicate]
    split <;> rfl
   rw [this]
   exact .und
theorem Lo.of_HR {n : Nat} (H : HR P ρ S w B h) (f : ∀ b, n ≤ b → ρ b = none) : Lo n h := by
 intro b hb k hk hx b' hb'
 rcases H.at_ b k hk with ⟨k', sz, _, hB⟩ | ⟨_, hr, _⟩
 · obtain ⟨cs, _, _, hcell⟩ := hB.here
   rw [Z83] at hb'
   obtain ⟨row, hrow, x, hx, hbx⟩ := hb'
   obtain ⟨i, hi⟩ := List.getElem?_of_mem hrow
   obtain ⟨j, hj⟩ := List.getElem?_of_mem hx
   obtain ⟨y, _, hr⟩ := hcell i row j x hi hj
   have hkn : ρ b' ≠ none := by
    have hcx := Yp.1 (hB.rows i row hi).2 x hx
    cases x with
    | fn f caps => exact Z8u hr b' (.inr hbx)
    | ref ty b0 off len cap ex => exact Z8u hr b' (.inl (by simp [Z4x, nmIn] at hbx; simp [nmX, nmIn, hbx]))
    | ptr b0 i j => exact Z8u hr b' (.inl (by simp [Z4x, nmIn] at hbx; simp [nmX, nmIn, hbx]))
    | agg cs => simp [Z0q] at hcx
    | tup cs => simp [Z0q] at hcx
    | _ => simp [Z4x, nmIn] at hbx
   rcases Nat.lt_or_ge b' n with h | h
   · exact h
   · exact absurd (f b' h) hkn
 · rw [hr] at hb'; simp [Yh] at hb'
theorem Zh1 (hE : EnvOk P E) (hS : Z1f E) (hm : P.follows .mixedOrders = true) {f : Nat} {fn : AFn} (ok : okFn P f fn = true) {as : List A} {xs : List Value} {n bs : Nat} (hbs : bs = n ∨ (bs = 0 ∧ noLp fn.code = true)) (r : RL P ρ S w as xs) (H : HR P ρ S w B h) (hB : B ≤ w.heap.size) (hf : ∀ b, n ≤ b → ρ b = none)
 {σ : St} (e : exec E fn.code ⟨slots as, h, n, bs⟩ = some (.norm σ) ∨ exec E fn.code ⟨slots as, h, n, bs⟩ = some (.ret σ)) {vs : List A} (hv : Z47 σ fn.res = some vs) :
 Calls P f xs.toArray w fun
  | .returned v, w' => ∃ us, v = Zpi us ∧ ∃ ρ' S', MvX n B ρ S w ρ' S' w' ∧ HR P ρ' S' w' B σ.h ∧ RL P ρ' S' w' vs us ∧ ∀ b, σ.n ≤ b → ρ' b = none
  | _, _ => False := by
 unfold okFn at ok
 split at ok
 · rename_i F hF
   simp only [Bool.and_eq_true] at ok
   obtain ⟨⟨o1, o2⟩, o3⟩ := ok
   split at o1
   · rename_i c hc
     refine calls_of_wp hF hc ?_
     have T : SW P ρ S B F.ntmps ⟨slots as, h, n, bs⟩ { tmps := xs.toArray ++ Array.replicate (F.ntmps - xs.toArray.size) undef, defers := [] } w :=
      ⟨fun t => Zns r _ t, by simp; omega, rfl, H, hB⟩
     have go : ∀ out, exec E fn.code ⟨slots as, h, n, bs⟩ = some out → out.st = σ → (∀ ex, Zr out ex → ex = .normal ∨ ex = .ret) → c.wp P (bodyPost P F fun
      | .returned v, w' => ∃ us, v = Zpi us ∧ ∃ ρ' S', MvX n B ρ S w ρ' S' w' ∧ HR P ρ' S' w' B σ.h ∧ RL P ρ' S' w' vs us ∧ ∀ b, σ.n ≤ b → ρ' b = none
      | _, _ => False) { tmps := xs.toArray ++ Array.replicate (F.ntmps - xs.toArray.size) undef, defers := [] } w := by
      intro out ho hst hex
      have main : c.wp P (Post P n B F.ntmps ρ S w out) { tmps := xs.toArray ++ Array.replicate (F.ntmps - xs.toArray.size) undef, defers := [] } w := by
       rcases hbs with rfl | ⟨rfl, hfl⟩
       · exact Z67 hE hS hm fn.code c o1 ρ S _ _ w out ho T hf (Nat.le_refl _) (Lo.of_HR H hf)
       · exact Zrj hE hS hm fn.code c o1 hfl n ρ S _ _ w out ho T hf (Nat.le_refl _) (Nat.zero_le _)
      refine wp_mono main (fun ex a1 w1 p => ?_)
      obtain ⟨ρ1, S1, M1, T1, f1⟩ := p.ex
      rw [hst] at T1 f1
      obtain ⟨us, hrun, hus⟩ := Z72 T1.heap rfl T1.slot (F := F) o2 hv
      rcases hex ex p.same with rfl | rfl
      · exact ⟨T1.defers, _, hrun, us, rfl, ρ1, S1, M1, T1.heap, hus, f1⟩
      · exact ⟨T1.defers, _, hrun, us, rfl, ρ1, S1, M1, T1.heap, hus, f1⟩
     rcases e with e | e
     · exact go _ e rfl (fun ex hx => by cases ex <;> simp [Zr] at hx; exact .inl rfl)
     · exact go _ e rfl (fun ex hx => by cases ex <;> simp [Zr] at hx; exact .inr rfl)
   · cases o1
 · cases ok
theorem Z96 {f : Nat} {fn : AFn} (ok : okFn P f fn = true) : Z6k P f := by
 unfold okFn at ok
 split at ok
 · rename_i F hF
   simp only [Bool.and_eq_true] at ok
   obtain ⟨⟨o1, o2⟩, o3⟩ := ok
   split at o1
   · rename_i c hc
     refine ⟨F, hF, ?_, by rw [hc]; rfl⟩
     simpa using o3
   · cases o1
 · cases ok
structure ProgOk (P : Program) (p : Prog) : Prop where
 orders : P.follows .mixedOrders = true
 fn : ∀ f fn, p.fn f = some fn → okFn P f fn = true
 dn : ∀ f fn, p.dn f = some fn → okFn P f fn = true
 ext : ∀ f F, p.ext f = some F → Z5i P F f ∧ Z6k P f
 ins : ∀ f e, p.ins f = some e → DcOk P (insF e) f ∧ Z6k P f
 hx : ∀ f F, p.hx f = some F → DcOk P F f ∧ Z6k P f
 fl : ∀ f fn, p.fl f = some fn → okFn P f fn = true ∧ noLp fn.code = true
theorem HR.empty (hS : ∀ k, S k → k < w.heap.size) (hG : GlobOk P S w) : HR P Yg S w w.heap.size (fun _ => none) :=
 ⟨fun b blk e => (by cases e), fun b b' k sz sz' blk blk' e => (by cases e), hS, hG⟩
theorem ProgOk.dfn {p : Prog} (O : ProgOk P p) (f : Nat) (fn : AFn) (h : p.dfn f = some fn) : okFn P f fn = true := by
 unfold Prog.dfn at h
 split at h
 · rename_i fn' h'
   cases h
   exact O.dn f fn h'
 · exact O.fn f fn h
theorem ProgOk.shr {p : Prog} (O : ProgOk P p) (d : Nat) : Z1f ⟨den p d, dcl p d, dfl p d⟩ := Zcu p (fun f fn h => (O.fl f fn h).2) d
theorem Zcr {p : Prog} (O : ProgOk P p) : ∀ d, EnvOk P ⟨den p d, dcl p d, dfl p d⟩
 | 0 => ⟨fun f S w as rs xs e => (by simp [den] at e), fun f as rs e => (by simp [den] at e), fun f ρ S w B as xs h n rs h' n' e => (by simp [dcl] at e), fun f as h n r e => (by simp [dcl] at e), fun f ρ S w B as xs h n rs h' n' e => (by simp [dfl] at e), fun f as h n r e => (by simp [dfl] at e)⟩
 | d + 1 => by
   have ih := Zcr O d
   refine ⟨fun f S w as rs xs e hS hG r => ?_, fun f as rs e => ?_, fun f ρ S w B as xs h n rs h' n' e H hB r hf => ?_, fun f as h n r e => ?_, fun f ρ S w B as xs h n rs h' n' e H hB r hf => ?_, fun f as h n r e => ?_⟩
   · simp only [den] at e
     split at e
     · rename_i F hF
       exact (O.ext f F hF).1 S w as rs xs e hS hG r
     · split at e
       · cases e
       · rename_i fn hfn
         obtain ⟨σ, ho, hk⟩ := Z8w e
         obtain ⟨vs, hvs, h1⟩ := Z3 hk
         refine (Zh1 ih (O.shr d) O.orders (O.fn f fn hfn) (.inl rfl) r (HR.empty hS hG) (Nat.le_refl _) (fun b _ => rfl) ho hvs).mono (fun en w1 he => ?_)
         cases en with
         | returned v =>
           obtain ⟨us, rfl, ρ1, S1, M1, H1, r1, f1⟩ := he
           exact Z78 rfl H1 r1 h1 M1.sub M1.back M1.below M1.ext
         | _ => exact he
   · simp only [den] at e
     split at e
     · rename_i F hF
       exact (O.ext f F hF).2
     · split at e
       · cases e
       · rename_i fn hfn
         exact Z96 (O.fn f fn hfn)
   · simp only [dcl] at e
     split at e
     · rename_i e1 he1
       exact (O.ins f e1 he1).1 ρ S w B as xs h n rs h' n' e H hB r hf
     · split at e
       · rename_i F hF
         obtain ⟨q, hq, e1⟩ := Z3 e
         split at e1
         · simp only [Option.some.injEq] at e1
           subst e1
           exact (O.hx f F hF).1 ρ S w B as xs h n rs h' n' hq H hB r hf
         · cases e1
       · split at e
         · cases e
         · rename_i fn hfn
           obtain ⟨σ, ho, hk⟩ := Z8w e
           obtain ⟨vs, hvs, h1⟩ := Z3 hk
           simp only [Option.some.injEq, Prod.mk.injEq] at h1
           obtain ⟨rfl, rfl, rfl⟩ := h1
           have kx : KeepsX ⟨slots as, h, n, n⟩ σ := by
            rcases ho with ho | ho
            · exact Wp (O.shr d) _ _ _ (Nat.le_refl _) ho
            · exact Wp (O.shr d) _ _ _ (Nat.le_refl _) ho
           refine (Zh1 ih (O.shr d) O.orders (O.dfn f fn hfn) (.inl rfl) r H hB hf ho hvs).mono (fun en w1 he => ?_)
           cases en with
           | returned v =>
             obtain ⟨us, rfl, ρ1, S1, M1, H1, r1, f1⟩ := he
             refine ⟨by have := kx.base; have := kx.n; simp only at *; omega, ρ1, S1, ⟨fun b l hl => ?_, M1.sub, M1.ext, M1.below, fun b hb hn => ?_, M1.back⟩, H1, R.pack r1, f1⟩
             · rcases Nat.lt_or_ge b n with h | h
               · rw [M1.same b h]; exact hl
               · rw [hf b h] at hl; cases hl
             · rw [M1.same b (by omega)]; exact hb
           | _ => exact he
   · simp only [dcl] at e
     split at e
     · rename_i e1 he1
       exact (O.ins f e1 he1).2
     · split at e
       · rename_i F hF
         exact (O.hx f F hF).2
       · split at e
         · cases e
         · rename_i fn hfn
           exact Z96 (O.dfn f fn hfn)
   · simp only [dfl] at e
     split at e
     · cases e
     · rename_i fn hfn
       obtain ⟨σ, ho, hk⟩ := Z8w e
       obtain ⟨vs, hvs, h1⟩ := Z3 hk
       simp only [Option.some.injEq, Prod.mk.injEq] at h1
       obtain ⟨rfl, rfl, rfl⟩ := h1
       have kn : n ≤ σ.n := by
        rcases ho with ho | ho
        · exact Z4q (O.shr d) _ _ _ (O.fl f fn hfn).2 (Nat.zero_le _) ho
        · exact Z4q (O.shr d) _ _ _ (O.fl f fn hfn).2 (Nat.zero_le _) ho
       refine (Zh1 ih (O.shr d) O.orders (O.fl f fn hfn).1 (.inr ⟨rfl, (O.fl f fn hfn).2⟩) r H hB hf ho hvs).mono (fun en w1 he => ?_)
       cases en with
       | returned v =>
         obtain ⟨us, rfl, ρ1, S1, M1, H1, r1, f1⟩ := he
         refine ⟨kn, ρ1, S1, ⟨fun b l hl => ?_, M1.sub, M1.ext, M1.below, fun b hb hn => ?_, M1.back⟩, H1, R.pack r1, f1⟩
         · rcases Nat.lt_or_ge b n with h | h
           · rw [M1.same b h]; exact hl
           · rw [hf b h] at hl; cases hl
         · rw [M1.same b (by omega)]; exact hb
       | _ => exact he
   · simp only [dfl] at e
     split at e
     · cases e
     · rename_i fn hfn
       exact Z96 (O.fl f fn hfn).1
theorem Zs2 {p : Prog} (O : ProgOk P p) {d f : Nat} {as rs : List A} {xs : List Value} {w : World} (e : den p d f as = some rs) (hS : ∀ k, S k → k < w.heap.size) (hG : GlobOk P S w) (r : RL P Yg S w as xs) :
 Calls P f xs.toArray w fun | .returned v, w' => Res P S w rs v w' | _, _ => False := (Zcr O d).call f S w as rs xs e hS hG r
end Go.Vm
set_option linter.unusedVariables false
set_option linter.unusedSimpArgs false
namespace Go.Vm
open Go.RowKit Go.ChangeShapes Go.WideShapes
variable {P : Program}
abbrev oldS (W : World) : Nat → Prop := fun k => k < W.heap.size
structure Rdr {α : Type} (P : Program) (t : TypeId) (enc : α → List A) (ok : α → Prop) : Prop where
 rd : ∀ {H : Type} (e : TypeId × Value → H) (W : World) (fuel : Nat) (cs : List Value) (x : DataW H × List MemPlace), DataW.trod e P W 0 (fun _ => true) true fuel t cs = some x → ∃ y : α, ok y ∧ RL P Yg (oldS W) W (enc y) cs
 len : ∀ y, (enc y).length = P.cellsOf t
 cell : ∀ y, Zd (enc y) = true
theorem Rdr.int {t : TypeId} {k : IntKind} (ht : P.underlying t = some (.int k)) (h1 : P.cellsOf t = 1) : Rdr P t (fun n : Int => [.v (.int k n)]) (fun n => k.min ≤ n ∧ n ≤ k.max) :=
 ⟨fun e W fuel cs x h => by
  obtain ⟨n, rfl, _, hw⟩ := DataW.trod_int ht h
  simp only [Lit.wf, Bool.and_eq_true, decide_eq_true_eq] at hw
  exact ⟨n, hw, .cons (.v _ rfl) .nil⟩, fun _ => h1.symm, fun _ => rfl⟩
theorem Rdr.bool {t : TypeId} (ht : P.underlying t = some .bool) (h1 : P.cellsOf t = 1) : Rdr P t (fun b : Bool => [.v (.bool b)]) (fun _ => True) :=
 ⟨fun e W fuel cs x h => by
  obtain ⟨b, rfl, _⟩ := DataW.trod_bool ht h
  exact ⟨b, trivial, .cons (.v _ rfl) .nil⟩, fun _ => h1.symm, fun _ => rfl⟩
theorem Rdr.str {t : TypeId} (ht : P.underlying t = some .string) (h1 : P.cellsOf t = 1) : Rdr P t (fun s : ByteArray => [.v (.string s)]) (fun s => s.size ≤ maxLen) :=
 ⟨fun e W fuel cs x h => by
  obtain ⟨s, rfl, _, hs⟩ := DataW.trod_string ht h
  exact ⟨s, hs, .cons (.v _ rfl) .nil⟩, fun _ => h1.symm, fun _ => rfl⟩
theorem Zps {w : World} {a : Addr} : ∀ (n : Nat) {cs : List Value}, w.cells? 0 a n = some cs → cs.length = n ∧ ∀ j, j < n → w.cell? (a.add j) = cs[j]? := by
 intro n cs h
 unfold World.cells? at h
 rw [if_pos (Nat.zero_le _)] at h
 have gen : ∀ (l : List Nat) (cs : List Value), l.mapM (fun i => w.cell? (a.add i)) = some cs → cs.length = l.length ∧ ∀ j, j < l.length → w.cell? (a.add (l.getD j 0)) = cs[j]? := by
  intro l
  induction l with
  | nil => intro cs h; simp at h; subst h; exact ⟨rfl, fun j hj => by simp at hj⟩
  | cons i l ih =>
    intro cs h
    rw [List.mapM_cons] at h
    cases hv : w.cell? (a.add i) with
    | none => rw [hv] at h; cases h
    | some v =>
      rw [hv] at h
      cases hvs : l.mapM (fun i => w.cell? (a.add i)) with
      | none => simp [hvs] at h
      | some vs =>
        simp [hvs] at h
        subst h
        obtain ⟨q1, q2⟩ := ih vs hvs
        refine ⟨by simp [q1], fun j hj => ?_⟩
        cases j with
        | zero => simpa using hv
        | succ j => simpa using q2 j (by simpa using hj)
 obtain ⟨q1, q2⟩ := gen _ _ h
 refine ⟨by simpa using q1, fun j hj => ?_⟩
 have := q2 j (by simpa using hj)
 simpa [List.getD_eq_getElem?_getD, List.getElem?_range hj] using this
theorem Zbe {α : Type} {Q : Nat → α → Prop} : ∀ (n : Nat), (∀ i, i < n → ∃ x, Q i x) → ∃ xs : List α, xs.length = n ∧ ∀ i x, xs[i]? = some x → Q i x
 | 0, _ => ⟨[], rfl, fun i x h => by simp at h⟩
 | n + 1, h => by
   obtain ⟨xs, h1, h2⟩ := Zbe n (fun i hi => h i (by omega))
   obtain ⟨x, hx⟩ := h n (by omega)
   refine ⟨xs ++ [x], by simp [h1], fun i y hy => ?_⟩
   by_cases hi : i < xs.length
   · rw [List.getElem?_append_left hi] at hy; exact h2 i y hy
   · rw [List.getElem?_append_right (by omega)] at hy
     have : i - xs.length = 0 := by
      rcases Nat.eq_zero_or_pos (i - xs.length) with q | q
      · exact q
      · rw [List.getElem?_eq_none (by simp; omega)] at hy; cases hy
     rw [this] at hy
     simp at hy
     subst hy
     have : i = n := by omega
     subst this
     exact hx
theorem Rdr.slice {α : Type} {t e : TypeId} {enc : α → List A} {ok : α → Prop} (ht : P.underlying t = some (.slice e)) (h1 : P.cellsOf t = 1) (hpos : 0 < P.cellsOf e) (r : Rdr P e enc ok) : Rdr P t (fun xs : List α => [.lit e (xs.map enc)]) (fun xs => xs.length ≤ maxLen ∧ ∀ x ∈ xs, ok x) := by
 refine ⟨fun en W fuel cs x h => ?_, fun _ => h1.symm, fun _ => rfl⟩
 rcases DataW.trod_slice ht h with ⟨rfl, _⟩ | ⟨a, len, cap, elems, rest, n, _, rfl, _, _, hlc, hcap, hel, hget, _⟩
 · refine ⟨[], ⟨by simp, fun x hx => by simp at hx⟩, .cons ?_ .nil⟩
   exact .lit e [] none 0 (fun _ _ => undef) (Nat.le_refl _) (fun i row h => by simp at h) (fun i row j x h => by simp at h) (fun i row j x h => by simp at h)
 · -- an element
   have one : ∀ i, i < len → ∃ y : α, ok y ∧ ∃ cs', RL P Yg (oldS W) W (enc y) cs' ∧ cs'.length = P.cellsOf e ∧ ∀ j, j < P.cellsOf e → W.cell? ((a.add (i * P.cellsOf e)).add j) = cs'[j]? := by
    intro i hi
    have hg := hget i hi
    cases hc : W.cells? 0 (a.add (i * P.cellsOf e)) (P.cellsOf e) with
    | none =>
      rw [hc] at hg
      simp only [Option.bind_none] at hg
      rw [List.getElem?_eq_getElem (by omega)] at hg
      cases hg
    | some cs' =>
      rw [hc] at hg
      simp only [Option.bind_some] at hg
      obtain ⟨q1, q2⟩ := Zps _ hc
      rw [List.getElem?_eq_getElem (by omega)] at hg
      obtain ⟨y, hy, hr⟩ := r.rd en W n cs' _ hg
      exact ⟨y, hy, cs', hr, q1, q2⟩
   obtain ⟨ys, hl, hys⟩ := Zbe len one
   have hspot : 0 < len → a.spot = none := fun hlen => by
    obtain ⟨y, _, cs', _, q1, q2⟩ := one 0 hlen
    have := q2 0 hpos
    rw [List.getElem?_eq_getElem (by omega)] at this
    simp only [Nat.zero_mul, Addr.add, if_true] at this
    unfold World.cell? at this
    split at this
    · split at this
      · cases this
      · rename_i hs; simpa using hs
    · cases this
   refine ⟨ys, ⟨by omega, fun y hy => ?_⟩, .cons ?_ .nil⟩
   · obtain ⟨i, hi⟩ := List.getElem?_of_mem hy
     exact (hys i y hi).1
   · have hrows : ∀ (i : Nat) (row : List A), (ys.map enc)[i]? = some row → i < len ∧ ∃ y, ys[i]? = some y ∧ row = enc y := by
      intro i row h
      simp only [List.getElem?_map, Option.map_eq_some_iff] at h
      obtain ⟨y, hy, rfl⟩ := h
      exact ⟨by have := (List.getElem?_eq_some_iff.1 hy).1; omega, y, hy, rfl⟩
     have haddr : ∀ i j, a.spot = none → (a.add (i * P.cellsOf e)).add j = ⟨a.block, a.off + i * P.cellsOf e + j, none⟩ := by
      intro i j hs
      obtain ⟨b, o, s⟩ := a
      simp only at hs
      subst hs
      rw [Vu, Vu]
     have cellAt : ∀ (i : Nat) (row : List A) (j : Nat) (x : A), (ys.map enc)[i]? = some row → row[j]? = some x → ∃ v, W.cell? ⟨a.block, a.off + i * P.cellsOf e + j, none⟩ = some v ∧ R P Yg (oldS W) W x v := by
      intro i row j x h1 h2
      obtain ⟨hi, y, hy, rfl⟩ := hrows i row h1
      obtain ⟨_, cs', hr, q1, q2⟩ := hys i y hy
      have hj : j < P.cellsOf e := by rw [← r.len y]; exact (List.getElem?_eq_some_iff.1 h2).1
      have := q2 j hj
      rw [List.getElem?_eq_getElem (by omega), haddr i j (hspot (by omega))] at this
      exact ⟨_, this, hr.at_ j x _ h2 (List.getElem?_eq_getElem (by omega))⟩
     suffices hh : R P Yg (oldS W) W (.lit e (ys.map enc)) (.slice (some a) (ys.map enc).length cap) by
      simp only [List.length_map, hl] at hh
      exact hh
     refine .lit e (ys.map enc) (some a) cap (fun i j => (W.cell? ⟨a.block, a.off + i * P.cellsOf e + j, none⟩).getD undef) (by simp [hl]; exact hlc) (fun i row h => ?_) (fun i row j x h1 h2 => ?_) (fun i row j x h1 h2 => ?_)
     · obtain ⟨_, y, _, rfl⟩ := hrows i row h
       exact ⟨r.len y, r.cell y⟩
     · obtain ⟨v, hv, _⟩ := cellAt i row j x h1 h2
       obtain ⟨hi, _⟩ := hrows i row h1
       have hs := hspot (by omega)
       refine ⟨a.block, a.off, by obtain ⟨b, o, s⟩ := a; simp only at hs; subst hs; rfl, ?_, by rw [hv]; rfl⟩
       show a.block < W.heap.size
       unfold World.cell? at hv
       cases hb : W.heap[a.block]? with
       | none => simp only [hb] at hv; cases hv
       | some o => exact (Array.getElem?_eq_some_iff.1 hb).1
     · obtain ⟨v, hv, hr⟩ := cellAt i row j x h1 h2
       rw [hv]
       exact hr
inductive RdF (P : Program) : List Field → Nat → (α : Type) → (α → List A) → (α → Prop) → Prop
 | nil {n : Nat} : RdF P [] n Unit (fun _ => []) (fun _ => True)
 | cons {f : Field} {fs : List Field} {n : Nat} {α β : Type} {enc : α → List A} {ok : α → Prop} {enc' : β → List A} {ok' : β → Prop} (ho : f.offset = n) (r : Rdr P f.type enc ok) (rs : RdF P fs (n + P.cellsOf f.type) β enc' ok') :
   RdF P (f :: fs) n (α × β) (fun x => enc x.1 ++ enc' x.2) (fun x => ok x.1 ∧ ok' x.2)
theorem RdF.all {fs : List Field} {n : Nat} {α : Type} {enc : α → List A} {ok : α → Prop} (r : RdF P fs n α enc ok) : (∀ y, Zd (enc y) = true) ∧ (∃ m, ∀ y, (enc y).length = m) ∧
 ∀ {H : Type} (e : TypeId × Value → H) (W : World) (fuel : Nat) (cs : List Value), (∀ f ∈ fs, ∃ x, DataW.trod e P W 0 (fun _ => true) true fuel f.type ((cs.drop f.offset).take (P.cellsOf f.type)) = some x) → ∃ y : α, ok y ∧ RL P Yg (oldS W) W (enc y) ((cs.drop n).take (enc y).length) := by
 induction r with
 | nil => exact ⟨fun _ => rfl, ⟨0, fun _ => rfl⟩, fun e W fuel cs _ => ⟨(), trivial, by simp only [List.length_nil, List.take_zero]; exact .nil⟩⟩
 | @cons f fs n α β enc ok enc' ok' ho r rs ih =>
   obtain ⟨i1, ⟨m, i2⟩, i3⟩ := ih
   refine ⟨fun y => ?_, ⟨P.cellsOf f.type + m, fun y => by simp [r.len, i2]⟩, fun e W fuel cs h => ?_⟩
   · rw [Yp]
     intro x hx
     rcases List.mem_append.1 hx with hx | hx
     · exact Yp.1 (r.cell _) x hx
     · exact Yp.1 (i1 _) x hx
   · obtain ⟨x, hx⟩ := h f (by simp)
     obtain ⟨y, hy, hr⟩ := r.rd e W fuel _ x hx
     obtain ⟨z, hz, hr'⟩ := i3 e W fuel cs (fun g hg => h g (by simp [hg]))
     refine ⟨(y, z), ⟨hy, hz⟩, ?_⟩
     have hl : ((cs.drop n).take (enc y ++ enc' z).length) = (cs.drop n).take (P.cellsOf f.type) ++ (cs.drop (n + P.cellsOf f.type)).take (enc' z).length := by
      rw [List.length_append, r.len, List.take_add, List.drop_drop]
     rw [hl]
     rw [ho] at hr
     exact hr.append hr'
theorem Rdr.struct {t : TypeId} {fs : Array Field} {α : Type} {enc : α → List A} {ok : α → Prop} (ht : P.underlying t = some (.struct fs)) (r : RdF P fs.toList 0 α enc ok) (hl : ∀ y, (enc y).length = P.cellsOf t) : Rdr P t enc ok := by
 obtain ⟨i1, _, i3⟩ := r.all
 refine ⟨fun e W fuel cs x h => ?_, hl, i1⟩
 obtain ⟨xs, n, _, _, hcl, hxl, hget⟩ := DataW.trod_struct ht h
 obtain ⟨y, hy, hr⟩ := i3 e W n cs (fun f hf => by
  obtain ⟨i, hi⟩ := List.getElem?_of_mem hf
  have hi' : fs[i]? = some f := by simpa using hi
  have := hget i f hi'
  have hlt : i < fs.size := (Array.getElem?_eq_some_iff.1 hi').1
  rw [List.getElem?_eq_getElem (by omega)] at this
  exact ⟨_, this⟩)
 refine ⟨y, hy, ?_⟩
 rw [hl, ← hcl] at hr
 simpa using hr
theorem Rdr.iso {α β : Type} {t : TypeId} {enc : α → List A} {ok : α → Prop} {enc' : β → List A} {ok' : β → Prop} (r : Rdr P t enc ok) (f : α → β) (h1 : ∀ x, enc' (f x) = enc x) (h2 : ∀ x, ok x → ok' (f x)) (h3 : ∀ y, (enc' y).length = P.cellsOf t) (h4 : ∀ y, Zd (enc' y) = true) : Rdr P t enc' ok' :=
 ⟨fun e W fuel cs x h => by
  obtain ⟨y, hy, hr⟩ := r.rd e W fuel cs x h
  exact ⟨f y, h2 y hy, by rw [h1]; exact hr⟩, h3, h4⟩
section
variable {H : Type} {e : TypeId × Value → H} {W : World} {base : Nat} {t : TypeId} {v : Value} {d : DataW H} {ps : List MemPlace}
theorem Zpe {fs : Array Field} {α : Type} {enc : α → List A} {ok : α → Prop} (ht : P.underlying t = some (.struct fs)) (r : Rdr P t enc ok) (hv : Value.okWide P W .any base t v) (h : DataW.Trod e P W 0 (fun _ => true) true t v d ps) :
 ∃ y : α, ok y ∧ R P Yg (oldS W) W (.agg (enc y)) v := by
 obtain ⟨cs, rfl, _⟩ := okWide_struct ht hv
 obtain ⟨fuel, hf⟩ := h
 obtain ⟨y, hy, hr⟩ := r.rd e W fuel _ _ hf
 refine ⟨y, hy, ?_⟩
 have := R.agg (P := P) (ρ := Yg) (S := oldS W) (w := W) (enc y) cs.toList hr.len hr.at_
 simpa using this
theorem Y0k (ht : P.underlying t = some .string) (hv : Value.okWide P W .any base t v) (h : DataW.Trod e P W 0 (fun _ => true) true t v d ps) : ∃ s : ByteArray, s.size ≤ maxLen ∧ R P Yg (oldS W) W (.v (.string s)) v := by
 obtain ⟨s, rfl⟩ := okWide_string ht hv
 obtain ⟨fuel, hf⟩ := h
 obtain ⟨s', h1, _, hs⟩ := DataW.trod_string ht hf
 simp [Value.cells] at h1
 subst h1
 exact ⟨s, hs, .v _ rfl⟩
end
theorem Z7l {H : Type} {e : TypeId × Value → H} {W W' : World} (hl : laidOutB P = true) (hb : Below W.heap.size W W') : ∀ {ts : List TypeId} {vs : List Value} {ds : List (DataW H)} {ps : List MemPlace}, (∀ t ∈ ts, P.readableRec t = true ∧ t < P.types.size) → DataW.TrodAll e P W 0 (fun _ => true) true ts vs ds ps →
 (∀ x ∈ ps, x.block < W.heap.size) → ∀ sp : Nat → Bool, (∀ p ∈ ps, sp p.block = true) → DataW.TrodAll e P W' 0 sp true ts vs ds ps
 | [], vs, ds, ps, _, h, _, sp, _ => by
   obtain ⟨rfl, rfl, rfl⟩ := trodAll_nil h
   exact h
 | t :: ts, vs, ds, ps, hr, h, hlt, sp, hsp => by
   obtain ⟨v, vs', d, ds', p, q, rfl, rfl, rfl, h1, h2⟩ := trodAll_cons h
   refine ⟨p, q, ?_, Z7l hl hb (fun u hu => hr u (by simp [hu])) h2 (fun x hx => hlt x (by simp [hx])) sp (fun x hx => hsp x (by simp [hx])), rfl⟩
   exact WideElems.Trod_stays hl (hr t (by simp)).1 (hr t (by simp)).2 h1 (fun x hx => hb.same (hlt x (by simp [hx]))) (fun x hx => hsp x (by simp [hx]))
theorem Zcb {H : Type} {e : TypeId × Value → H} {W : World} {sp : Nat → Bool} {hd : Bool} : ∀ {ts : List TypeId} {vs : List Value} {ds : List (DataW H)} {ps : List MemPlace}, DataW.TrodAll e P W 0 sp hd ts vs ds ps → ds.length = ts.length
 | [], vs, ds, ps, h => by obtain ⟨rfl, rfl, rfl⟩ := trodAll_nil h; rfl
 | t :: ts, vs, ds, ps, h => by
   obtain ⟨v, vs', d, ds', p, q, rfl, rfl, rfl, h1, h2⟩ := trodAll_cons h
   simp [Zcb h2]
theorem GlobOk.nothing {S : Nat → Prop} {w : World} (h : gNames.all (fun nm => (P.globalNamed nm).isNone) = true) : GlobOk P S w := by
 rw [List.all_eq_true] at h
 have hn : ∀ nm ∈ gNames, P.globalNamed nm = none := fun nm hm => by simpa using h nm hm
 refine ⟨fun nm hm g hg => ?_, fun q => ?_, fun q => ?_, fun q => ?_⟩
 · rw [hn nm hm] at hg; cases hg
 · rw [hn _ (by simp [gNames])] at q; cases q
 · rw [hn _ (by simp [gNames])] at q; cases q
 · rw [hn _ (by simp [gNames])] at q; cases q
theorem Zjq {H : Type} {enc : TypeId × Value → H} {p : Prog} (O : ProgOk P p) {f D : Nat} {F : Func} {s : ChangeSpec} {tb : TypeId} (hl : laidOutB P = true) (hparams : ∀ t ∈ F.params.toList, P.readableRec t = true ∧ t < P.types.size)
 (hvars : s.vars = []) (hres : F.resultTypes = #[tb]) (htb : P.underlying tb = some .bool)
 (hfn : ∀ ds : List (DataW H), ds.length = F.params.size → (s.fn H ds).results = [.lit (.bool true)] ∧ (s.fn H ds).args = ds ∧ (s.fn H ds).vars = [])
 {W : World} {args : Array Value} {ds gs : List (DataW H)} {before : List MemPlace} (hW : DataW.Whole enc P F.params.toList s.vars false W args.toList ds gs before)
 (hG : GlobOk P (oldS W) W)
 (hden : ∀ q, DataW.TrodAll enc P W 0 (fun _ => true) true F.params.toList args.toList ds q → ∃ as, RL P Yg (oldS W) W as args.toList ∧ den p D f as = some [.v (.bool true)]) :
 Calls P f args W fun e W' => ∃ v, e = .returned v ∧ s.post enc P F false true false false W args v W' := by
 have hW' := hW
 obtain ⟨q, q', hA, hV, rfl, hfz, hnd⟩ := hW
 rw [hvars] at hV
 obtain ⟨rfl, rfl⟩ := trodVars_none hV
 obtain ⟨as, hr, hd⟩ := hden q hA
 have hcalls := Zs2 O hd (S := oldS W) (fun k hk => hk) hG hr
 have hargs : args.toList.toArray = args := by simp
 rw [hargs] at hcalls
 refine hcalls.mono fun en W1 he => ?_
 cases en with
 | returned v =>
   refine ⟨v, rfl, ?_⟩
   obtain ⟨S', _, _, hbelow, hext, hall⟩ := he
   obtain ⟨ρr, _, _, hv⟩ := hall 0
   have hv' : v = .bool true := (R.v_inv hv).1
   subst hv'
   have hlen := Zcb hA
   obtain ⟨f1, f2, f3⟩ := hfn ds (by simpa using hlen)
   have hlt : ∀ x ∈ q, x.block < W.heap.size := fun x hx => by simpa using hW'.lt x (by simpa using hx)
   have hold : ∀ p ∈ q ++ [], (fun b => decide (b < W.heap.size)) p.block = true := fun p hp => by simpa using hlt p (by simpa using hp)
   refine ⟨_, _, _, [], q, [], hW', ?_, ?_, ?_, World.keptBut_mono (fun p hp => ⟨hp, ?_⟩) (hbelow.frame _), fun h => by cases h⟩
   · rw [List.append_nil, f1, hres]
     exact trodAll_mk1 (shut_bool htb true)
   · rw [List.append_nil, f2]
     exact Z7l hl hbelow hparams hA hlt _ (fun x hx => hold x (by simpa using hx))
   · rw [List.append_nil, f3, hvars]
     rfl
   · simpa using hp
 | _ => exact he.elim
end Go.Vm
end
