/-
  Drawn regions, code and programs of the abstract machine, held against the model
-/
import Derived.Test.YtcceojmajfinpaaGreatDoorVmB
import Derived.LoopN
import Derived.ProofKit
section
set_option linter.unusedVariables false
set_option linter.unusedSimpArgs false
set_option linter.unusedSectionVars false
namespace Go.Vm
open Go.RowKit
def AOp.opds : AOp -> List Opd
 | .mv _ x => [x] | .pick _ c a b => [c, a, b] | .box _ _ _ _ x => [x] | .bld _ _ _ ps => ps.map (·.2.2) | .bsl _ _ _ _ xs => xs | .ld _ _ _ p => [p] | .st _ p x => [p, x] | .stn _ _ p => [p]
 | .nl _ x => [x] | .bin _ _ x y => [x, y] | .eqs _ _ _ x y => [x, y] | .beq _ _ x y => [x, y] | .un _ _ x => [x] | .cv _ _ x => [x] | .cbs _ _ x => [x] | .mkf _ _ xs => xs
 | .mks _ _ _ _ l c => [l, c] | .sl _ _ x a b c => x :: (a.toList ++ b.toList ++ c.toList) | .fa _ x _ => [x] | .fld _ x _ _ _ => [x] | .ex _ x _ => [x] | .ia _ _ x i => [x, i] | .ix _ x i => [x, i]
 | .call _ _ _ _ xs => xs | .callv _ _ _ f xs => f :: xs | .dcall _ _ xs => xs | .dcf _ _ xs => xs | .mkb _ _ _ _ l c => [l, c] | .bsb _ _ _ _ xs => xs | .apb _ _ _ s x => [s, x] | .callx _ _ _ _ xs => xs | .dcs _ _ xs => xs | .bll _ _ _ xs => xs | .dcallv _ f xs => f :: xs | .len _ _ x => [x] | .app _ _ _ s x => [s, x] | .clr _ _ x => [x] | .mnx _ _ x y => [x, y]
 | _ => []
def Same (x y : Option Blk) : Prop := ∃ k k', x = some k /\ y = some k' /\ k'.ty = k.ty /\ k'.rows = k.rows /\ k'.box = k.box
theorem Same.refl {x : Option Blk} (h : x ≠ none) : Same x x := by
 cases x with
 | none => exact absurd rfl h
 | some k => exact ⟨k, k, rfl, rfl, rfl, rfl, rfl⟩
theorem Same.symm {x y : Option Blk} (h : Same x y) : Same y x := by
 obtain ⟨k, k', rfl, rfl, a, b, c⟩ := h
 exact ⟨k', k, rfl, rfl, a.symm, b.symm, c.symm⟩
theorem Same.trans {x y z : Option Blk} (h : Same x y) (g : Same y z) : Same x z := by
 obtain ⟨k, k', rfl, rfl, a, b, c⟩ := h
 obtain ⟨l, l', e, rfl, a', b', c'⟩ := g
 cases e
 exact ⟨k, l', rfl, rfl, a'.trans a, b'.trans b, c'.trans c⟩
def Y61 (x : Option Blk) : Option Blk := x.map fun k => { k with own := false }
theorem Zlf {x : Option Blk} (h : x ≠ none) : Same x (Y61 x) := by
 cases x with
 | none => exact absurd rfl h
 | some k => exact ⟨k, _, rfl, rfl, rfl, rfl, rfl⟩
theorem Z6m (bs : List Nat) (h : Hp) (b : Nat) : frz h bs b = if b ∈ bs then Y61 (h b) else h b := by
 rw [Zd6]
 cases h b with
 | none => simp [Y61]
 | some k => by_cases hb : b ∈ bs <;> simp [hb, Y61]
variable {h h' : Hp}
theorem Zso {a : A} {r : List A × Nat} (e : Zbm h a = some r) (hs : ∀ b ∈ Yk a, Same (h b) (h' b)) : Zbm h' a = some r /\ ∀ b ∈ Yk a, h b ≠ none := by
 cases a with
 | pl row j => exact ⟨e, fun b hb => by simp [Yk] at hb⟩
 | ptr b i j =>
   obtain ⟨k, hk, e1⟩ := Z6 e
   obtain ⟨k1, k2, e2, e3, _, e4, _⟩ := hs b (by simp [Yk])
   rw [hk] at e2; cases e2
   refine ⟨?_, fun b' hb => by simp [Yk] at hb; subst hb; rw [hk]; simp⟩
   simp only [Zbm, e3, bnd, e4]
   exact e1
 | _ => simp [Zbm] at e
theorem Z80 {t : Nat} {a : A} {r : List (List A)} (e : rowsOf t h a = some r) (hs : ∀ b ∈ Yk a, Same (h b) (h' b)) : rowsOf t h' a = some r /\ ∀ b ∈ Yk a, h b ≠ none := by
 cases a with
 | lit ty rows => exact ⟨e, fun b hb => by simp [Yk] at hb⟩
 | ref ty b off len cap ex =>
   obtain ⟨k, hk, e1⟩ := Z6 e
   obtain ⟨k1, k2, e2, e3, e5, e4, e6⟩ := hs b (by simp [Yk])
   rw [hk] at e2; cases e2
   refine ⟨?_, fun b' hb => by simp [Yk] at hb; subst hb; rw [hk]; simp⟩
   simp only [rowsOf, e3, bnd, e4, e5, e6]
   exact e1
 | _ => simp [rowsOf] at e
theorem Z7e {a c : A} (e : Wz h a = some c) (hs : ∀ b ∈ Xk a, Same (h b) (h' b)) : Wz h' a = some c /\ ∀ b ∈ Xk a, h b ≠ none := by
 cases a with
 | v x => exact ⟨e, fun b hb => by simp [Xk] at hb⟩
 | lit ty rows => exact ⟨e, fun b hb => by simp [Xk] at hb⟩
 | ref ty b off len cap ex =>
   obtain ⟨k, hk, e1⟩ := Z6 e
   obtain ⟨k1, k2, e2, e3, e5, e4, e6⟩ := hs b (by simp [Xk])
   rw [hk] at e2; cases e2
   refine ⟨?_, fun b' hb => by simp [Xk] at hb; subst hb; rw [hk]; simp⟩
   simp only [Wz, e3, bnd, e4, e5, e6]
   exact e1
 | _ => simp [Wz] at e
theorem Z3g : ∀ {as cs : List A}, Z0q h as = some cs -> (∀ b ∈ Zr as, Same (h b) (h' b)) -> Z0q h' as = some cs /\ ∀ b ∈ Zr as, h b ≠ none
 | [], cs, e, _ => ⟨e, fun b hb => by simp [Zr] at hb⟩
 | a :: as, cs, e, hs => by
   obtain ⟨c, hc, e1⟩ := Z6 e
   obtain ⟨j1, j0, e2⟩ := Z6 e1
   obtain ⟨p1, p2⟩ := Z7e hc (fun b hb => hs b (by simp [Zr, hb]))
   obtain ⟨q1, q2⟩ := Z3g j0 (fun b hb => hs b (by simp [Zr, hb]))
   refine ⟨by simp only [Z0q, p1, q1, bnd]; exact e2, fun b hb => ?_⟩
   simp only [Zr, dW] at hb
   rcases hb with hb | hb
   . exact p2 b hb
   . exact q2 b hb
theorem Zhh {a c : A} (e : Z9e h a = some c) (hs : ∀ b ∈ Z4e h a, Same (h b) (h' b)) : Z9e h' a = some c /\ Z4e h' a = Z4e h a /\ ∀ b ∈ Z4e h a, h b ≠ none := by
 cases a with
 | pl r j => exact ⟨e, rfl, fun b hb => by simp [Z4e] at hb⟩
 | ptr b i j =>
   obtain ⟨k, hk, e1⟩ := Z6 e
   obtain ⟨row, j0, e2⟩ := Z6 e1
   obtain ⟨cs, j2, e3⟩ := Z6 e2
   have j1 : Z4e h (.ptr b i j) = b :: Zr row := by simp [Z4e, hk, j0]
   obtain ⟨k1, k2, f2, f3, f5, f4, f6⟩ := hs b (by rw [j1]; exact dC)
   rw [hk] at f2; cases f2
   obtain ⟨p1, p2⟩ := Z3g j2 (fun b' hb => hs b' (by rw [j1]; exact eB _ hb))
   refine ⟨?_, ?_, fun b' hb => ?_⟩
   . simp only [Z9e, f3, bnd, f4, j0, p1]; exact e3
   . rw [j1]; simp [Z4e, f3, f4, j0]
   . rw [j1] at hb
     rcases eK.1 hb with rfl | hb
     . rw [hk]; simp
     . exact p2 b' hb
 | _ => simp [Z9e] at e
theorem Zdv : ∀ {as cs : List A}, Z6t h as = some cs -> (∀ b ∈ Z0v h as, Same (h b) (h' b)) -> Z6t h' as = some cs /\ Z0v h' as = Z0v h as /\ ∀ b ∈ Z0v h as, h b ≠ none
 | [], cs, e, _ => ⟨e, rfl, fun b hb => by simp [Z0v] at hb⟩
 | a :: as, cs, e, hs => by
   obtain ⟨c, hc, e1⟩ := Z6 e
   obtain ⟨j1, j0, e2⟩ := Z6 e1
   obtain ⟨p1, p2, p3⟩ := Zhh hc (fun b hb => hs b (by simp [Z0v, hb]))
   obtain ⟨q1, q2, q3⟩ := Zdv j0 (fun b hb => hs b (by simp [Z0v, hb]))
   refine ⟨by simp only [Z6t, p1, q1, bnd]; exact e2, by simp only [Z0v, p2, q2], fun b hb => ?_⟩
   simp only [Z0v, dW] at hb
   rcases hb with hb | hb
   . exact p3 b hb
   . exact q3 b hb
theorem Zsf {a c : A} (e : Zbe h a = some c) (hs : ∀ b ∈ Zbr h a, Same (h b) (h' b)) : Zbe h' a = some c /\ Zbr h' a = Zbr h a /\ ∀ b ∈ Zbr h a, h b ≠ none := by
 cases a with
 | agg cs =>
   obtain ⟨ds, j0, e1⟩ := Z6 e
   obtain ⟨p1, p2⟩ := Z3g j0 hs
   exact ⟨by simp only [Zbe, p1, bnd]; exact e1, rfl, p2⟩
 | fn f caps =>
   obtain ⟨ds, j0, e1⟩ := Z6 e
   obtain ⟨p1, p2, p3⟩ := Zdv j0 hs
   exact ⟨by simp only [Zbe, p1, bnd]; exact e1, p2, p3⟩
 | ptr b i j => exact Zhh (show Z9e h (.ptr b i j) = some c from e) hs
 | pl r j => exact ⟨e, rfl, fun b hb => by simp [Zbr, Xk] at hb⟩
 | v x =>
   obtain ⟨p1, p2⟩ := Z7e (show Wz h (.v x) = some c from e) hs
   exact ⟨p1, rfl, p2⟩
 | lit ty rows =>
   obtain ⟨p1, p2⟩ := Z7e (show Wz h (.lit ty rows) = some c from e) hs
   exact ⟨p1, rfl, p2⟩
 | ref ty b off len cap ex =>
   obtain ⟨p1, p2⟩ := Z7e (show Wz h (.ref ty b off len cap ex) = some c from e) hs
   exact ⟨p1, rfl, p2⟩
 | _ => simp [Zbe, Wz] at e
theorem Z7x : ∀ {as cs : List A}, Z0t h as = some cs -> (∀ b ∈ Xm h as, Same (h b) (h' b)) -> Z0t h' as = some cs /\ Xm h' as = Xm h as /\ ∀ b ∈ Xm h as, h b ≠ none
 | [], cs, e, _ => ⟨e, rfl, fun b hb => by simp [Xm] at hb⟩
 | a :: as, cs, e, hs => by
   obtain ⟨c, hc, e1⟩ := Z6 e
   obtain ⟨j1, j0, e2⟩ := Z6 e1
   obtain ⟨p1, p2, p3⟩ := Zsf hc (fun b hb => hs b (by simp [Xm, hb]))
   obtain ⟨q1, q2, q3⟩ := Z7x j0 (fun b hb => hs b (by simp [Xm, hb]))
   refine ⟨by simp only [Z0t, p1, q1, bnd]; exact e2, by simp only [Xm, p2, q2], fun b hb => ?_⟩
   simp only [Xm, dW] at hb
   rcases hb with hb | hb
   . exact p3 b hb
   . exact q3 b hb
def rdV (h : Hp) (get : Opd -> Option A) : AOp -> List Nat
 | .ld _ _ _ p => match get p with | some v => Yk v | none => []
 | .cbs _ _ x => match get x with | some v => Yk v | none => []
 | .call _ _ _ _ xs => match xs.mapM get with | some as => Xm h as | none => []
 | _ => []
theorem Zcs {f g : Opd -> Option A} : ∀ {xs : List Opd}, (∀ x ∈ xs, g x = f x) -> xs.mapM g = xs.mapM f
 | [], _ => rfl
 | x :: xs, e => by
   rw [gL, gL, e x dC, Zcs (xs := xs) (fun y hy => e y (eB _ hy))]
theorem Z2j {E : Env} {get get' : Opd -> Option A} {pk pk' : Bool -> Opd -> Option Bool} {op : AOp} {u : A} (e : Ya E h get pk op = some u) (hg : ∀ x ∈ op.opds, get' x = get x) (hp : ∀ q, ∀ x ∈ op.opds, pk' q x = pk q x)
 (hs : ∀ b ∈ rdV h get op, Same (h b) (h' b)) : Ya E h' get' pk' op = some u /\ ∀ b ∈ rdV h get op, h b ≠ none := by
 cases op with
 | ld d n g p =>
   simp only [Ya] at e ⊢
   rw [hg p (by simp [AOp.opds])]
   obtain ⟨r, hr, e1⟩ := Z6 e
   obtain ⟨v, hv, hr⟩ := Z6 hr
   simp only [rdV, hv] at hs ⊢
   obtain ⟨p1, p2⟩ := Zso hr hs
   exact ⟨by simp only [bnd, p1]; exact e1, p2⟩
 | cbs d t x =>
   simp only [Ya] at e ⊢
   rw [hg x (by simp [AOp.opds])]
   obtain ⟨l, hl, e1⟩ := Z6 e
   obtain ⟨r, hr, hl⟩ := Z6 hl
   obtain ⟨v, hv, hr⟩ := Z6 hr
   simp only [rdV, hv] at hs ⊢
   obtain ⟨p1, p2⟩ := Z80 hr hs
   exact ⟨by simp only [bnd, p1, hl]; exact e1, p2⟩
 | call d nm w f xs =>
   simp only [Ya] at e ⊢
   have hm : xs.mapM get' = xs.mapM get := Zcs (fun x hx => hg x (by simpa [AOp.opds] using hx))
   rw [hm]
   obtain ⟨rs, j0, e1⟩ := Z6 e
   obtain ⟨cs, j1, j0⟩ := Z6 j0
   obtain ⟨as, has, j1⟩ := Z6 j1
   simp only [rdV, has] at hs ⊢
   obtain ⟨p1, p2, p3⟩ := Z7x j1 hs
   exact ⟨by simp only [bnd, p1, j0]; exact e1, p3⟩
 | pick d c a b =>
   simp only [Ya] at e ⊢
   rw [hg c (by simp [AOp.opds])]
   have h1 : ∀ q, pk' q a = pk q a := fun q => hp q a (by simp [AOp.opds])
   have h2 : ∀ q, pk' q b = pk q b := fun q => hp q b (by simp [AOp.opds])
   simp only [h1, h2]
   exact ⟨e, fun b hb => by simp [rdV] at hb⟩
 | bin d o x y => simp only [Ya] at e ⊢; rw [hg x (by simp [AOp.opds]), hg y (by simp [AOp.opds])]; exact ⟨e, fun b hb => by simp [rdV] at hb⟩
 | eqs d ks ng x y => simp only [Ya] at e ⊢; rw [hg x (by simp [AOp.opds]), hg y (by simp [AOp.opds])]; exact ⟨e, fun b hb => by simp [rdV] at hb⟩
 | beq d ng x y => simp only [Ya] at e ⊢; rw [hg x (by simp [AOp.opds]), hg y (by simp [AOp.opds])]; exact ⟨e, fun b hb => by simp [rdV] at hb⟩
 | ia d t x y => simp only [Ya] at e ⊢; rw [hg x (by simp [AOp.opds]), hg y (by simp [AOp.opds])]; exact ⟨e, fun b hb => by simp [rdV] at hb⟩
 | ix d x y => simp only [Ya] at e ⊢; rw [hg x (by simp [AOp.opds]), hg y (by simp [AOp.opds])]; exact ⟨e, fun b hb => by simp [rdV] at hb⟩
 | mnx d m x y => simp only [Ya] at e ⊢; rw [hg x (by simp [AOp.opds]), hg y (by simp [AOp.opds])]; exact ⟨e, fun b hb => by simp [rdV] at hb⟩
 | mv d x => simp only [Ya] at e ⊢; rw [hg x (by simp [AOp.opds])]; exact ⟨e, fun b hb => by simp [rdV] at hb⟩
 | un d o x => simp only [Ya] at e ⊢; rw [hg x (by simp [AOp.opds])]; exact ⟨e, fun b hb => by simp [rdV] at hb⟩
 | cv d k x => simp only [Ya] at e ⊢; rw [hg x (by simp [AOp.opds])]; exact ⟨e, fun b hb => by simp [rdV] at hb⟩
 | fa d x o => simp only [Ya] at e ⊢; rw [hg x (by simp [AOp.opds])]; exact ⟨e, fun b hb => by simp [rdV] at hb⟩
 | fld d x o n g => simp only [Ya] at e ⊢; rw [hg x (by simp [AOp.opds])]; exact ⟨e, fun b hb => by simp [rdV] at hb⟩
 | ex d x i => simp only [Ya] at e ⊢; rw [hg x (by simp [AOp.opds])]; exact ⟨e, fun b hb => by simp [rdV] at hb⟩
 | len d s x => simp only [Ya] at e ⊢; rw [hg x (by simp [AOp.opds])]; exact ⟨e, fun b hb => by simp [rdV] at hb⟩
 | nl d x => simp only [Ya] at e ⊢; rw [hg x (by simp [AOp.opds])]; exact ⟨e, fun b hb => by simp [rdV] at hb⟩
 | bld d nm zs ps =>
   cases ps with
   | nil => exact ⟨e, fun b hb => by simp [rdV] at hb⟩
   | cons p ps => simp [Ya] at e
 | _ => simp [Ya] at e
variable {U U2 : St}
theorem Zgt : ∀ {ps : List (Nat × Nat × Opd)} {cs : List A}, (∀ x ∈ ps.map (·.2.2), ev U2 x = ev U x) -> Zd8 U2 cs ps = Zd8 U cs ps
 | [], cs, _ => rfl
 | (off, n, x) :: ps, cs, e => by
   simp only [Zd8]
   rw [e x (by simp)]
   split
   . exact Zgt (fun y hy => e y (by simp at hy ⊢; exact .inr hy))
   . rfl
theorem Z1r : ∀ {xs : List Opd}, (∀ x ∈ xs, ev U2 x = ev U x) -> evs U2 xs = evs U xs
 | [], _ => rfl
 | x :: xs, e => by simp only [evs, e x dC, Z1r (fun y hy => e y (eB _ hy))]
theorem Zfj : ∀ {xs : List Opd}, (∀ x ∈ xs, ev U2 x = ev U x) -> Xw U2 xs = Xw U xs
 | [], _ => rfl
 | x :: xs, e => by simp only [Xw, e x dC, Zfj (fun y hy => e y (eB _ hy))]
theorem Zdz {n : Nat} : ∀ {xs : List Opd} {rows : List (List A)}, Z5k U n xs = some rows -> (∀ x ∈ xs, ev U2 x = ev U x) -> (∀ b ∈ Xw U xs, Same (U.h b) (U2.h b)) -> Z5k U2 n xs = some rows /\ ∀ b ∈ Xw U xs, U.h b ≠ none
 | [], rows, e, _, _ => ⟨e, fun b hb => by simp [Xw] at hb⟩
 | x :: xs, rows, e, he, hs => by
   simp only [Z5k] at e ⊢
   rw [he x dC]
   split at e
   . rename_i hl
     rw [if_pos hl]
     obtain ⟨r, hr, e1⟩ := Z6 e
     obtain ⟨rs, j0, e2⟩ := Z6 e1
     obtain ⟨p1, p2⟩ := Z3g hr (fun b hb => hs b (by simp [Xw, hb]))
     obtain ⟨q1, q2⟩ := Zdz j0 (fun y hy => he y (eB _ hy)) (fun b hb => hs b (by simp [Xw, hb]))
     refine ⟨by simp only [p1, q1, bnd]; exact e2, fun b hb => ?_⟩
     simp only [Xw, dW] at hb
     rcases hb with hb | hb
     . exact p2 b hb
     . exact q2 b hb
   . cases e
theorem Z9c {x : Option Opd} {z : Nat} (e : ∀ y ∈ x.toList, ev U2 y = ev U y) : Zle U2 x z = Zle U x z := by
 cases x with
 | none => rfl
 | some y => simp only [Zle, e y (by simp)]
theorem Zdp {t : Option Nat} {lo hi mx : Option Opd} {a : A} (e1 : ∀ y ∈ lo.toList, ev U2 y = ev U y) (e2 : ∀ y ∈ hi.toList, ev U2 y = ev U y) (e3 : ∀ y ∈ mx.toList, ev U2 y = ev U y) : Z8c U2 t lo hi mx a = Z8c U t lo hi mx a := by
 cases a with
 | v x => cases x <;> simp only [Z8c, Z9c e1, Z9c e2]
 | _ => simp only [Z8c, Z9c e1, Z9c e2, Z9c e3]
end Go.Vm
namespace Go.Vm
open Go.RowKit
structure LocE (f : St -> Option St) (ag : St -> St -> Prop) (U : St) (d : Option Nat) (u : A) (F : Hp -> Hp) (iv Md : Nat -> Prop) (Rd : List Nat) : Prop where
 eq : f U = some ⟨put U.s d u, F U.h, U.n, U.base⟩
 pw : ∀ h h' b, h b = h' b -> F h b = F h' b
 cls : ∀ b, iv b \/ Md b \/ (∀ h, F h b = h b) \/ (b ∈ Rd /\ ∀ h, F h b = Y61 (h b))
 has : ∀ b, b ∈ Rd \/ Md b -> U.h b ≠ none
 move : ∀ U2, ag U U2 -> U2.n = U.n -> U2.base = U.base -> (∀ b ∈ Rd, Same (U.h b) (U2.h b)) -> (∀ b, Md b -> U2.h b = U.h b) -> f U2 = some ⟨put U2.s d u, F U2.h, U2.n, U2.base⟩
def AOp.isCall : AOp -> Bool
 | .call _ _ _ _ _ | .callv _ _ _ _ _ | .callx _ _ _ _ _ => true
 | _ => false
def AOp.easy : AOp -> Bool
 | .stn _ _ _ | .clr _ _ _ | .dcall _ _ _ | .dcf _ _ _ | .dcallv _ _ _ | .dcs _ _ _ | .no _ => false
 | _ => true
def AOp.quiet : AOp -> Bool
 | .ld _ _ _ _ | .cbs _ _ _ => true
 | _ => false
def AOp.isDc : AOp -> Bool
 | .dcall _ _ _ | .dcallv _ _ _ => true
 | _ => false
def AOp.rdOpds : AOp -> List Opd
 | .ld _ _ _ p => [p] | .cbs _ _ x => [x] | .bsl _ _ _ _ xs => xs | .app _ _ _ _ x => [x] | .apb _ _ _ _ x => [x] | .st _ _ x => [x]
 | _ => []
def AOp.mdOpds : AOp -> List Opd
 | .app _ _ _ s _ => [s] | .apb _ _ _ s _ => [s] | .st _ p _ => [p]
 | _ => []
def nmP : A -> List Nat
 | .ptr c _ _ => [c]
 | .fn _ caps => Z78 caps
 | _ => []
inductive Rt (h : Hp) : Nat -> Nat -> Prop
 | refl (c : Nat) : Rt h c c
 | step {c b d : Nat} {k : Blk} {row : List A} (hk : h c = some k) (hr : row ∈ k.rows) (hb : b ∈ Zr row) (t : Rt h b d) : Rt h c d
def Y2o (h : Hp) (a : A) (b : Nat) : Prop := ∃ c, (c ∈ nmX a \/ c ∈ nmP a) /\ Rt h c b
def Rch (O : St) (op : AOp) (b : Nat) : Prop := ∃ x ∈ op.opds, Y2o O.h (ev O x) b
def Y2j (op : AOp) (U U2 : St) : Prop := ∀ x ∈ op.opds, ev U2 x = ev U x
structure LocX (O : St) (op : AOp) (iv Md : Nat -> Prop) (Rd : List Nat) : Prop where
 ivs : ∀ b, iv b -> X1 (O.n + op.names.1) op.names.2 b
 rdx : ∀ b ∈ Rd, (op.isCall = true /\ Rch O op b) \/ ∃ x ∈ op.rdOpds, b ∈ nmX (ev O x)
 mdx : ∀ b, Md b -> ∃ y ∈ op.mdOpds, b ∈ Yk (ev O y)
structure LocC (O : St) (op : AOp) (iv Md : Nat -> Prop) (Rd : List Nat) : Prop where
 ivs : ∀ b, iv b -> X1 (O.n + op.names.1) op.names.2 b
 rdx : ∀ b ∈ Rd, (op.isCall = true /\ Rch O op b) \/ ∃ x ∈ op.rdOpds, b ∈ nmX (ev O x)
 mdx : ∀ b, Md b -> ∃ y ∈ op.mdOpds, b ∈ Yk (ev O y)
 call : ∀ d nm w f xs, op = .call d nm w f xs -> ∀ b ∈ Xm O.h (evs O xs), b ∈ Rd := by nofun
theorem LocC.x {O : St} {op : AOp} {iv Md : Nat -> Prop} {Rd : List Nat} (l : LocC O op iv Md Rd) : LocX O op iv Md Rd := ⟨l.ivs, l.rdx, l.mdx⟩
variable {h : Hp} {U U' U2 : St} {E : Env} {tot : Nat}
theorem Zlq {a : A} {b : Nat} (hb : b ∈ Z4e h a) : ∃ c ∈ Yk a, Rt h c b := by
 cases a with
 | ptr c i j =>
   simp only [Z4e] at hb
   split at hb
   . rename_i k hk
     rcases eK.1 hb with rfl | hb
     . exact ⟨b, by simp [Yk], .refl b⟩
     . rw [fV] at hb
       cases hr : k.rows[i]? with
       | none => rw [hr] at hb; simp [Zr] at hb
       | some r => rw [hr] at hb; exact ⟨c, by simp [Yk], .step hk (dY hr) hb (.refl b)⟩
   . simp at hb
 | _ => simp [Z4e] at hb
theorem Zgs : ∀ {as : List A} {b : Nat}, b ∈ Z0v h as -> ∃ c ∈ Z78 as, Rt h c b
 | [], b, hb => by simp [Z0v] at hb
 | a :: as, b, hb => by
   simp only [Z0v, dW] at hb
   rcases hb with hb | hb
   . obtain ⟨c, hc, r⟩ := Zlq hb
     exact ⟨c, by simp [Z78, hc], r⟩
   . obtain ⟨c, hc, r⟩ := Zgs hb
     exact ⟨c, by simp [Z78, hc], r⟩
theorem Zvw {a : A} {b : Nat} (hb : b ∈ Zbr h a) : Y2o h a b := by
 cases a with
 | agg cs => exact ⟨b, .inl (by simp only [nmX, A.cells, dW]; exact .inr hb), .refl b⟩
 | fn f caps => obtain ⟨c, hc, r⟩ := Zgs hb; exact ⟨c, .inr hc, r⟩
 | ptr c i j =>
   obtain ⟨c', hc, r⟩ := Zlq (show b ∈ Z4e h (.ptr c i j) from hb)
   exact ⟨c', .inr hc, r⟩
 | ref ty c off len cap ex => exact ⟨b, .inl (by simp only [nmX, Yk, dW]; exact .inl hb), .refl b⟩
 | _ => simp [Zbr, Xk] at hb
theorem Z9m : ∀ {as : List A} {b : Nat}, b ∈ Xm h as -> ∃ a ∈ as, Y2o h a b
 | [], b, hb => by simp [Xm] at hb
 | a :: as, b, hb => by
   simp only [Xm, dW] at hb
   rcases hb with hb | hb
   . exact ⟨a, by simp, Zvw hb⟩
   . obtain ⟨c, hc, r⟩ := Z9m hb
     exact ⟨c, by simp [hc], r⟩
theorem Zhw : ∀ {xs : List Opd} {a : A}, a ∈ evs U xs -> ∃ x ∈ xs, a = ev U x
 | [], a, h => by simp [evs] at h
 | x :: xs, a, h => by
   simp only [evs, eK] at h
   rcases h with rfl | h
   . exact ⟨x, by simp, rfl⟩
   . obtain ⟨y, hy, e⟩ := Zhw h
     exact ⟨y, by simp [hy], e⟩
theorem Zgf : ∀ {xs : List Opd} {b : Nat}, b ∈ Xw U xs -> ∃ x ∈ xs, b ∈ nmX (ev U x)
 | [], b, h => by simp [Xw] at h
 | x :: xs, b, h => by
   simp only [Xw, dW] at h
   rcases h with h | h
   . exact ⟨x, by simp, by simp [nmX, h]⟩
   . obtain ⟨y, hy, e⟩ := Zgf h
     exact ⟨y, by simp [hy], e⟩
def noN : Nat -> Prop := fun _ => False
theorem LocE.quiet {f : St -> Option St} {ag : St -> St -> Prop} {d : Option Nat} {u : A} {Rd : List Nat} (e : f U = some ⟨put U.s d u, U.h, U.n, U.base⟩) (has : ∀ b ∈ Rd, U.h b ≠ none)
 (mv : ∀ U2, ag U U2 -> U2.n = U.n -> U2.base = U.base -> (∀ b ∈ Rd, Same (U.h b) (U2.h b)) -> f U2 = some ⟨put U2.s d u, U2.h, U2.n, U2.base⟩) : LocE f ag U d u (fun h => h) noN noN Rd :=
 ⟨e, fun h h' b e => e, fun b => .inr (.inr (.inl fun h => rfl)), fun b hb => by rcases hb with hb | hb; exact has b hb; exact hb.elim, fun U2 a b c d' _ => mv U2 a b c d'⟩
theorem Z7z : ∀ (zs : List A) (h h' : Hp) (n : Nat), (Zy h n zs).1 = (Zy h' n zs).1
 | [], h, h', n => rfl
 | z :: zs, h, h', n => by
   cases z <;> simp only [Zy] <;> first | rw [Z7z zs _ (upd h' n _) (n + 1)] | rw [Z7z zs h h' n]
theorem Z9n : ∀ (zs : List A) (h h' : Hp) (n b : Nat), h b = h' b -> (Zy h n zs).2 b = (Zy h' n zs).2 b
 | [], h, h', n, b, e => e
 | z :: zs, h, h', n, b, e => by
   cases z <;> simp only [Zy] <;> first | exact Z9n zs h h' n b e | (refine Z9n zs _ _ (n + 1) b ?_; unfold upd; split <;> first | rfl | exact e)
theorem Z7l : ∀ (zs : List A) (h : Hp) (n b : Nat), ¬ X1 n (zs.filter V8).length b -> (Zy h n zs).2 b = h b
 | [], h, n, b, _ => rfl
 | z :: zs, h, n, b, hb => by
   cases z with
   | lit ty r =>
     have hl : ((A.lit ty r :: zs).filter V8).length = (zs.filter V8).length + 1 := by simp [gC, V8]
     rw [hl] at hb
     simp only [Zy]
     rw [Z7l zs _ (n + 1) b (by simp only [X1] at hb ⊢; omega), upd, if_neg (by simp only [X1] at hb; omega)]
   | _ => simp only [Zy]; exact Z7l zs h n b (by simpa [gC, V8] using hb)
theorem Zha (as : List A) (h h' : Hp) (n : Nat) : (Yh h n as).1 = (Yh h' n as).1 := by
 rw [(Z38 as h n).1, (Z38 as h' n).1]
theorem Zko (as : List A) (h h' : Hp) (n b : Nat) (e : h b = h' b) : (Yh h n as).2 b = (Yh h' n as).2 b := by
 rw [(Z38 as h n).2, (Z38 as h' n).2]
 unfold Zk6
 split
 . rfl
 . exact e
theorem Zad : ∀ (as : List A) (h : Hp) (n b : Nat), ¬ X1 n (Z89 as) b -> (Zz h n as).2 b = h b
 | [], h, n, b, _ => rfl
 | a :: as, h, n, b, hb => by
   cases a with
   | olit ty r =>
     simp only [Z89] at hb
     simp only [Zz]
     rw [Zad as _ (n + 1) b (by simp only [X1] at hb ⊢; omega), upd, if_neg (by simp only [X1] at hb; omega)]
   | _ => simp only [Zz]; exact Zad as h n b (by simpa [Z89] using hb)
theorem Zx6 (a : A) (h : Hp) (n b : Nat) (hb : ¬ X1 n (Z83 a) b) : (Z3a h n a).2 b = h b := by
 cases a with
 | agg cs => exact Zad cs h n b hb
 | olit ty r => simp only [Z3a]; rw [upd, if_neg (by simp only [X1, Z83] at hb; omega)]
 | _ => rfl
theorem Z6z : ∀ (as : List A) (h : Hp) (n b : Nat), ¬ X1 n (Yj as) b -> (Yh h n as).2 b = h b
 | [], h, n, b, _ => rfl
 | a :: as, h, n, b, hb => by
   simp only [Yh, Yj] at hb ⊢
   rw [Z6z as _ _ b (by simp only [X1] at hb ⊢; omega), Zx6 a h n b (by simp only [X1] at hb ⊢; omega)]
theorem Zc0 {as cs : List A} (e : Z0t h as = some cs) : ∀ b ∈ Xm h as, h b ≠ none := by
 have cell : ∀ {a c : A}, Wz h a = some c -> ∀ b ∈ Xk a, h b ≠ none := by
  intro a c e b hb
  cases a with
  | ref ty b' off len cap ex =>
    obtain ⟨k, hk, _⟩ := Z6 e
    simp [Xk] at hb; subst hb; rw [hk]; simp
  | _ => simp [Xk] at hb
 have cells : ∀ {as cs : List A}, Z0q h as = some cs -> ∀ b ∈ Zr as, h b ≠ none := by
  intro as
  induction as with
  | nil => intro cs e b hb; simp [Zr] at hb
  | cons a as ih =>
    intro cs e b hb
    obtain ⟨c, hc, e1⟩ := Z6 e
    obtain ⟨j4, j0, _⟩ := Z6 e1
    simp only [Zr, dW] at hb
    rcases hb with hb | hb
    . exact cell hc b hb
    . exact ih j0 b hb
 have ptr : ∀ {a c : A}, Z9e h a = some c -> ∀ b ∈ Z4e h a, h b ≠ none := by
  intro a c e b hb
  cases a with
  | ptr b' i j =>
    obtain ⟨k, hk, e1⟩ := Z6 e
    obtain ⟨row, j3, e2⟩ := Z6 e1
    obtain ⟨cs, j0, _⟩ := Z6 e2
    have j5 : Z4e h (.ptr b' i j) = b' :: Zr row := by simp [Z4e, hk, j3]
    rw [j5] at hb
    rcases eK.1 hb with rfl | hb
    . rw [hk]; simp
    . exact cells j0 b hb
  | _ => simp [Z4e] at hb
 have j1 : ∀ {as cs : List A}, Z6t h as = some cs -> ∀ b ∈ Z0v h as, h b ≠ none := by
  intro as
  induction as with
  | nil => intro cs e b hb; simp [Z0v] at hb
  | cons a as ih =>
    intro cs e b hb
    obtain ⟨c, hc, e1⟩ := Z6 e
    obtain ⟨j4, j0, _⟩ := Z6 e1
    simp only [Z0v, dW] at hb
    rcases hb with hb | hb
    . exact ptr hc b hb
    . exact ih j0 b hb
 have val : ∀ {a c : A}, Zbe h a = some c -> ∀ b ∈ Zbr h a, h b ≠ none := by
  intro a c e b hb
  cases a with
  | agg cs => obtain ⟨ds, j2, _⟩ := Z6 e; exact cells j2 b hb
  | fn f caps => obtain ⟨ds, j2, _⟩ := Z6 e; exact j1 j2 b hb
  | ptr b' i j => exact ptr (show Z9e h (.ptr b' i j) = some c from e) b hb
  | ref ty b' off len cap ex => exact cell (show Wz h (.ref ty b' off len cap ex) = some c from e) b hb
  | _ => simp [Zbr, Xk] at hb
 induction as generalizing cs with
 | nil => intro b hb; simp [Xm] at hb
 | cons a as ih =>
   intro b hb
   obtain ⟨c, hc, e1⟩ := Z6 e
   obtain ⟨j4, j0, _⟩ := Z6 e1
   simp only [Xm, dW] at hb
   rcases hb with hb | hb
   . exact val hc b hb
   . exact ih j0 b hb
theorem Zqx {d : Option Nat} {nm w : Nat} {ag : St -> St -> Prop} {f : St -> Option St} {as : List A} {fn : Nat} (hf : f U = Z3y E U d nm w fn as) (hag : ∀ U2, ag U U2 -> U2.n = U.n -> U2.base = U.base -> f U2 = Z3y E U2 d nm w fn as)
 (e : f U = some U') : ∃ u F rs, U' = ⟨put U.s d u, F U.h, U.n, U.base⟩ /\ Yj rs <= w /\ LocE f ag U d u F (X1 (U.n + nm) (Yj rs)) noN (Xm U.h as) := by
 have e' := e
 rw [hf] at e
 unfold Z3y at e
 obtain ⟨cs, j1, e1⟩ := Z6 e
 obtain ⟨rs, j2, e2⟩ := Z6 e1
 split at e2
 . cases e2
 . rename_i hw
   simp only [dM] at e2
   have p3 := Zc0 j1
   have j0 : ∀ h2 : Hp, Xm h2 as = Xm U.h as -> aft h2 as rs = if Z7j rs then frz h2 (Xm U.h as) else h2 := fun h2 q => by unfold aft; rw [q]
   refine ⟨pack (Yh (aft U.h as rs) (U.n + nm) rs).1, fun h => (Yh (if Z7j rs then frz h (Xm U.h as) else h) (U.n + nm) rs).2, rs, ?_, by omega, ⟨?_, fun h h' b q => ?_, fun b => ?_, fun b hb => ?_, fun U2 h1 h2 h3 h4 _ => ?_⟩⟩
   . rw [<- e2, j0 U.h rfl]
   . rw [e', <- e2, j0 U.h rfl]
   . refine Zko _ _ _ _ _ ?_
     split
     . rw [Z6m, Z6m, q]
     . exact q
   . by_cases hs : X1 (U.n + nm) (Yj rs) b
     . exact .inl hs
     . refine .inr (.inr ?_)
       by_cases ha : Z7j rs = true
       . by_cases hb : b ∈ Xm U.h as
         . exact .inr ⟨hb, fun h => by rw [Z6z _ _ _ _ hs, if_pos ha, Z6m, if_pos hb]⟩
         . exact .inl fun h => by rw [Z6z _ _ _ _ hs, if_pos ha, Z6m, if_neg hb]
       . exact .inl fun h => by rw [Z6z _ _ _ _ hs, if_neg ha]
   . rcases hb with hb | hb
     . exact p3 b hb
     . exact hb.elim
   . rw [hag U2 h1 h2 h3]
     obtain ⟨q1, q2, q3⟩ := Z7x j1 h4
     unfold Z3y
     simp only [q1, bnd, j2]
     rw [if_neg hw, j0 U2.h q2, h2, h3]
     congr 2
     rw [Zha rs _ (aft U.h as rs)]
theorem Z9p {f : A -> Option (A × List Nat)} : ∀ {as cs : List A} {bs : List Nat}, Z5c f as = some (cs, bs) -> ∀ b ∈ bs, ∃ a ∈ as, ∃ p, f a = some p /\ b ∈ p.2
 | [], cs, bs, e, b, hb => by
   simp only [Z5c, dM, dV] at e
   rw [<- e.2] at hb; simp at hb
 | a :: as, cs, bs, e, b, hb => by
   obtain ⟨p, hp, e1⟩ := Z6 e
   obtain ⟨q, hq, e2⟩ := Z6 e1
   simp only [dM, dV] at e2
   rw [<- e2.2] at hb
   rcases dW.1 hb with hb | hb
   . exact ⟨a, by simp, p, hp, hb⟩
   . obtain ⟨a', h1, h2⟩ := Z9p (bs := q.2) hq b hb
     exact ⟨a', by simp [h1], h2⟩
theorem Z9t {f g : A -> Option (A × List Nat)} : ∀ {as cs : List A} {bs : List Nat}, Z5c f as = some (cs, bs) -> (∀ a ∈ as, ∀ p, f a = some p -> (∀ b ∈ p.2, b ∈ bs) -> g a = some p) -> Z5c g as = some (cs, bs)
 | [], cs, bs, e, _ => e
 | a :: as, cs, bs, e, hg => by
   obtain ⟨p, hp, e1⟩ := Z6 e
   obtain ⟨q, hq, e2⟩ := Z6 e1
   simp only [dM, dV] at e2
   obtain ⟨rfl, rfl⟩ := e2
   unfold Z5c
   rw [hg a (by simp) p hp (fun b hb => List.mem_append_left _ hb)]
   show bnd (Z5c g as) _ = _
   rw [Z9t (bs := q.2) hq (fun a' ha p' j1 hb => hg a' (by simp [ha]) p' j1 (fun b j0 => gA _ (hb b j0)))]
   rfl
theorem Zaz {f : A -> Option (A × List Nat)} : ∀ {rows rs : List (List A)} {bs : List Nat}, Vr f rows = some (rs, bs) -> ∀ b ∈ bs, ∃ row ∈ rows, ∃ a ∈ row, ∃ p, f a = some p /\ b ∈ p.2
 | [], rs, bs, e, b, hb => by
   simp only [Vr, dM, dV] at e
   rw [<- e.2] at hb; simp at hb
 | r :: rows, rs, bs, e, b, hb => by
   obtain ⟨p, hp, e1⟩ := Z6 e
   obtain ⟨q, hq, e2⟩ := Z6 e1
   simp only [dM, dV] at e2
   rw [<- e2.2] at hb
   rcases dW.1 hb with hb | hb
   . exact ⟨r, by simp, Z9p (bs := p.2) hp b hb⟩
   . obtain ⟨r', h1, h2⟩ := Zaz (bs := q.2) hq b hb
     exact ⟨r', by simp [h1], h2⟩
theorem Zax {f g : A -> Option (A × List Nat)} : ∀ {rows rs : List (List A)} {bs : List Nat}, Vr f rows = some (rs, bs) -> (∀ a p, f a = some p -> (∀ b ∈ p.2, b ∈ bs) -> g a = some p) -> Vr g rows = some (rs, bs)
 | [], rs, bs, e, _ => e
 | r :: rows, rs, bs, e, hg => by
   obtain ⟨p, hp, e1⟩ := Z6 e
   obtain ⟨q, hq, e2⟩ := Z6 e1
   simp only [dM, dV] at e2
   obtain ⟨rfl, rfl⟩ := e2
   unfold Vr
   rw [Z9t (bs := p.2) hp (fun a _ p' j1 hb => hg a p' j1 (fun b j0 => List.mem_append_left _ (hb b j0)))]
   show bnd (Vr g rows) _ = _
   rw [Zax (bs := q.2) hq (fun a p' j1 hb => hg a p' j1 (fun b j0 => gA _ (hb b j0)))]
   rfl
theorem Z5f (h : Hp) : ∀ (m : Nat) (a : A) (p : A × List Nat), clD h m a = some p -> (∀ b ∈ p.2, h b ≠ none) /\ (∀ b ∈ p.2, ∃ c ∈ Xk a, Rt h c b) /\ ∀ h' : Hp, (∀ b ∈ p.2, Same (h b) (h' b)) -> clD h' m a = some p
 | m, .v x, p, e => by simp only [clD, dM] at e; subst e; exact ⟨fun b hb => by simp at hb, fun b hb => by simp at hb, fun h' _ => by simp only [clD]⟩
 | m, .lit ty r, p, e => by simp only [clD, dM] at e; subst e; exact ⟨fun b hb => by simp at hb, fun b hb => by simp at hb, fun h' _ => by simp only [clD]⟩
 | 0, .ref ty b off len cap ex, p, e => by simp [clD] at e
 | m + 1, .ref ty c off len cap ex, p, e => by
   simp only [clD] at e
   obtain ⟨k, hk, e1⟩ := Z6 e
   split at e1
   . rename_i j0
     cases hbx : k.box with
     | false =>
       rw [hbx] at e1
       simp only [cond_false, dM] at e1
       subst e1
       refine ⟨fun b hb => by simp at hb; subst hb; rw [hk]; simp, fun b hb => by simp at hb; subst hb; exact ⟨b, by simp [Xk], .refl b⟩, fun h' hs => ?_⟩
       obtain ⟨k1, k2, e2, e3, e5, e4, e6⟩ := hs c (by simp)
       rw [hk] at e2; cases e2
       simp only [clD, e3, bnd, e4, e5, e6, hbx, cond_false]
       rw [if_pos j0]
     | true =>
       rw [hbx] at e1
       simp only [cond_true] at e1
       obtain ⟨q, hq, e2⟩ := Z6 e1
       simp only [dM] at e2
       subst e2
       have one := Zaz (bs := q.2) hq
       refine ⟨fun b hb => ?_, fun b hb => ?_, fun h' hs => ?_⟩
       . rcases eK.1 hb with rfl | hb
         . rw [hk]; simp
         . obtain ⟨row, h1, a, h2, p', h3, h4⟩ := one b hb
           exact (Z5f h m a p' h3).1 b h4
       . rcases eK.1 hb with rfl | hb
         . exact ⟨b, by simp [Xk], .refl b⟩
         . obtain ⟨row, h1, a, h2, p', h3, h4⟩ := one b hb
           obtain ⟨d, hd, ht⟩ := (Z5f h m a p' h3).2.1 b h4
           obtain ⟨i, hi⟩ := eU h2
           refine ⟨c, by simp [Xk], .step hk (eS (fC h1)) ?_ ht⟩
           have : ∀ (l : List A), a ∈ l -> d ∈ Zr l := by
            intro l
            induction l with
            | nil => intro h; simp at h
            | cons x l ih =>
              intro h
              simp only [Zr, dW]
              rcases eK.1 h with rfl | h
              . exact .inl hd
              . exact .inr (ih h)
           exact this row h2
       . obtain ⟨k1, k2, e2, e3, e5, e4, e6⟩ := hs c (by simp)
         rw [hk] at e2; cases e2
         have := Zax (g := clD h' m) (bs := q.2) hq (fun a p' j2 hb => (Z5f h m a p' j2).2.2 h' (fun b j1 => hs b (eB _ (hb b j1))))
         simp only [clD, e3, bnd, e4, e5, e6, hbx, cond_true, this]
         rw [if_pos j0]
   . cases e1
 | m, .bad, p, e => by cases m <;> simp [clD] at e
 | m, .err, p, e => by cases m <;> simp [clD] at e
 | m, .und, p, e => by cases m <;> simp [clD] at e
 | m, .olit _ _, p, e => by cases m <;> simp [clD] at e
 | m, .ptr _ _ _, p, e => by cases m <;> simp [clD] at e
 | m, .pl _ _, p, e => by cases m <;> simp [clD] at e
 | m, .fn _ _, p, e => by cases m <;> simp [clD] at e
 | m, .agg _, p, e => by cases m <;> simp [clD] at e
 | m, .tup _, p, e => by cases m <;> simp [clD] at e
 | m, .ifg _ _, p, e => by cases m <;> simp [clD] at e
theorem Zzi {a : A} {b : Nat} (hb : b ∈ Xk a) : b ∈ nmX a := by
 cases a with
 | ref ty c off len cap ex => simp [Xk] at hb; subst hb; simp [nmX, Yk]
 | _ => simp [Xk] at hb
theorem Zc9 {h : Hp} {a : A} {p : A × List Nat} (e : Zxp h a = some p) : (∀ b ∈ p.2, h b ≠ none) /\ (∀ b ∈ p.2, Y2o h a b) /\ ∀ h' : Hp, (∀ b ∈ p.2, Same (h b) (h' b)) -> Zxp h' a = some p := by
 have flat : Zxp h a = clD h 4 a -> (∀ h' : Hp, Zxp h' a = clD h' 4 a) -> (∀ b ∈ p.2, h b ≠ none) /\ (∀ b ∈ p.2, Y2o h a b) /\ ∀ h' : Hp, (∀ b ∈ p.2, Same (h b) (h' b)) -> Zxp h' a = some p := fun q1 q2 => by
  rw [q1] at e
  obtain ⟨r1, r2, r3⟩ := Z5f h 4 a p e
  exact ⟨r1, fun b hb => by obtain ⟨c, hc, t⟩ := r2 b hb; exact ⟨c, .inl (Zzi hc), t⟩, fun h' hs => by rw [q2]; exact r3 h' hs⟩
 cases a with
 | agg cs =>
   obtain ⟨q, hq, e1⟩ := Z6 e
   simp only [dM] at e1
   subst e1
   have one := Z9p (bs := q.2) hq
   refine ⟨fun b hb => ?_, fun b hb => ?_, fun h' hs => ?_⟩
   . obtain ⟨a, h1, p', h2, h3⟩ := one b hb
     exact (Z5f h 4 a p' h2).1 b h3
   . obtain ⟨a, h1, p', h2, h3⟩ := one b hb
     obtain ⟨c, hc, t⟩ := (Z5f h 4 a p' h2).2.1 b h3
     refine ⟨c, .inl ?_, t⟩
     simp only [nmX, Yk, A.cells, dH]
     have : ∀ (l : List A), a ∈ l -> c ∈ Zr l := by
      intro l
      induction l with
      | nil => intro h; simp at h
      | cons x l ih =>
        intro h
        simp only [Zr, dW]
        rcases eK.1 h with rfl | h
        . exact .inl hc
        . exact .inr (ih h)
     exact this cs h1
   . show bnd (Z5c (clD h' 4) cs) _ = _
     rw [Z9t (g := clD h' 4) (bs := q.2) hq (fun a _ p' j1 hb => (Z5f h 4 a p' j1).2.2 h' (fun b j0 => hs b (hb b j0)))]
     rfl
 | _ => exact flat rfl (fun _ => rfl)
theorem Zwg {d : Option Nat} {nm w : Nat} {ag : St -> St -> Prop} {f : St -> Option St} {as : List A} {fn : Nat} (hf : f U = Z5d E U d nm w fn as) (hag : ∀ U2, ag U U2 -> U2.n = U.n -> U2.base = U.base -> f U2 = Z5d E U2 d nm w fn as)
 (e : f U = some U') : ∃ u F rs bs, U' = ⟨put U.s d u, F U.h, U.n, U.base⟩ /\ Yj rs <= w /\ LocE f ag U d u F (X1 (U.n + nm) (Yj rs)) noN bs /\ ∀ b ∈ bs, ∃ a ∈ as, Y2o U.h a b := by
 have e' := e
 rw [hf] at e
 unfold Z5d at e
 obtain ⟨p, hp, e1⟩ := Z6 e
 obtain ⟨rs, j2, e2⟩ := Z6 e1
 split at e2
 . cases e2
 . rename_i hw
   simp only [dM] at e2
   have one := Z9p (f := Zxp U.h) (bs := p.2) hp
   refine ⟨pack (Yh U.h (U.n + nm) rs).1, fun h => (Yh h (U.n + nm) rs).2, rs, p.2, e2.symm, by omega, ⟨by rw [e', <- e2], fun h h' b q => Zko _ _ _ _ _ q, fun b => ?_, fun b hb => ?_, fun U2 h1 h2 h3 h4 _ => ?_⟩, fun b hb => ?_⟩
   . by_cases hs : X1 (U.n + nm) (Yj rs) b
     . exact .inl hs
     . exact .inr (.inr (.inl fun h => by rw [Z6z _ _ _ _ hs]))
   . rcases hb with hb | hb
     . obtain ⟨a, _, p', h2, h3⟩ := one b hb
       exact (Zc9 h2).1 b h3
     . exact hb.elim
   . rw [hag U2 h1 h2 h3]
     have q1 : Zfx U2.h as = some p := Z9t (g := Zxp U2.h) (bs := p.2) hp (fun a _ p' j1 hb => (Zc9 j1).2.2 U2.h (fun b j0 => h4 b (hb b j0)))
     unfold Z5d
     simp only [q1, bnd, j2]
     rw [if_neg hw, h2, h3]
     congr 2
     rw [Zha rs _ U.h]
   . obtain ⟨a, h1, p', h2, h3⟩ := one b hb
     exact ⟨a, h1, (Zc9 h2).2.1 b h3⟩
theorem Zsq {bx : Bool} {t : Nat} {a : A} {r : List (List A)} {h h' : Hp} (e : Zae bx t h a = some r) (hs : ∀ b ∈ Yk a, Same (h b) (h' b)) : Zae bx t h' a = some r := by
 cases a with
 | lit ty rows => exact e
 | ref ty b off len cap ex =>
   obtain ⟨k, hk, e1⟩ := Z6 e
   obtain ⟨k1, k2, e2, e3, e5, e4, e6⟩ := hs b (by simp [Yk])
   rw [hk] at e2; cases e2
   simp only [Zae, e3, bnd, e4, e5, e6]
   exact e1
 | _ => simp [Zae] at e
theorem Zy0 {bx : Bool} {t : Nat} {a : A} {r : List (List A)} {h : Hp} (e : Zae bx t h a = some r) : ∀ b ∈ Yk a, h b ≠ none := by
 intro b hb
 cases a with
 | ref ty b' off len cap ex =>
   obtain ⟨k, hk, _⟩ := Z6 e
   simp [Yk] at hb; subst hb; rw [hk]; simp
 | ptr b' i j => simp [Zae] at e
 | _ => simp [Yk] at hb
end Go.Vm
namespace Go.Vm
open Go.RowKit
variable {h : Hp} {U U' U2 : St} {E : Env} {tot : Nat}
theorem Zwm {get : Opd -> Option A} {op : AOp} {O : St} (hh : O.h = h) (hc : ∀ x ∈ op.opds, ∀ v, get x = some v -> v = ev O x) (hop : op.isCall = false) : ∀ b ∈ rdV h get op, ∃ x ∈ op.rdOpds, b ∈ nmX (ev O x) := by
 intro b hb
 cases op with
 | ld d n g p =>
   simp only [rdV] at hb
   split at hb
   . rename_i v hv
     exact ⟨p, by simp [AOp.rdOpds], by rw [<- hc p (by simp [AOp.opds]) v hv]; simp [nmX, hb]⟩
   . simp at hb
 | cbs d t x =>
   simp only [rdV] at hb
   split at hb
   . rename_i v hv
     exact ⟨x, by simp [AOp.rdOpds], by rw [<- hc x (by simp [AOp.opds]) v hv]; simp [nmX, hb]⟩
   . simp at hb
 | call d nm w f xs => simp [AOp.isCall] at hop
 | _ => simp [rdV] at hb
theorem Z5q {h h' : Hp} {n b : Nat} {x : Option Blk} (e : h b = h' b) : upd h n x b = upd h' n x b := by unfold upd; split <;> first | rfl | exact e
theorem Z0o {h : Hp} {n b : Nat} {x : Option Blk} (hb : b ≠ n) : upd h n x b = h b := by rw [upd, if_neg hb]
theorem Zdq {as cs : List A} (e : Z0q h as = some cs) : ∀ b ∈ Zr as, h b ≠ none := by
 have := Zc0 (h := h) (as := [.agg as]) (cs := [.agg cs]) (by simp [Z0t, Zbe, e, bnd])
 intro b hb
 exact this b (by simp [Xm, Zbr, hb])
theorem Zge {n : Nat} : ∀ {xs : List Opd} {rows : List (List A)}, Z5k U n xs = some rows -> ∀ b ∈ Xw U xs, U.h b ≠ none
 | [], rows, e, b, hb => by simp [Xw] at hb
 | x :: xs, rows, e, b, hb => by
   simp only [Z5k] at e
   split at e
   . obtain ⟨r, hr, e1⟩ := Z6 e
     obtain ⟨rs, j0, e2⟩ := Z6 e1
     simp only [Xw, dW] at hb
     rcases hb with hb | hb
     . exact Zdq hr b hb
     . exact Zge j0 b hb
   . cases e
theorem Zgo {t : Nat} {a : A} {r : List (List A)} (e : rowsOf t h a = some r) : ∀ b ∈ Yk a, h b ≠ none := by
 intro b hb
 cases a with
 | ref ty b' off len cap ex =>
   obtain ⟨k, hk, _⟩ := Z6 e
   simp [Yk] at hb; subst hb; rw [hk]; simp
 | ptr b' i j => simp [rowsOf] at e
 | _ => simp [Yk] at hb
theorem Zw4 {a : A} {r : List A × Nat} (e : Zbm h a = some r) : ∀ b ∈ Yk a, h b ≠ none := by
 intro b hb
 cases a with
 | ptr b' i j =>
   obtain ⟨k, hk, _⟩ := Z6 e
   simp [Yk] at hb; subst hb; rw [hk]; simp
 | ref ty b' off len cap ex => simp [Zbm] at e
 | _ => simp [Yk] at hb
theorem Z8j {get : Opd -> Option A} {pk : Bool -> Opd -> Option Bool} {op : AOp} {u : A} (e : Ya E h get pk op = some u) : ∀ b ∈ rdV h get op, h b ≠ none := by
 intro b hb
 cases op with
 | ld d n g p =>
   simp only [Ya] at e
   obtain ⟨r, hr, e1⟩ := Z6 e
   obtain ⟨v, hv, hr⟩ := Z6 hr
   simp only [rdV, hv] at hb
   exact Zw4 hr b hb
 | cbs d t x =>
   simp only [Ya] at e
   obtain ⟨l, hl, e1⟩ := Z6 e
   obtain ⟨r, hr, hl⟩ := Z6 hl
   obtain ⟨v, hv, hr⟩ := Z6 hr
   simp only [rdV, hv] at hb
   exact Zgo hr b hb
 | call d nm w f xs =>
   simp only [Ya] at e
   obtain ⟨rs, j1, e1⟩ := Z6 e
   obtain ⟨cs, j0, j1⟩ := Z6 j1
   obtain ⟨as, has, j0⟩ := Z6 j0
   simp only [rdV, has] at hb
   exact Zc0 j0 b hb
 | _ => simp [rdV] at hb
theorem Y0k {f : Nat} {caps : List A} {a : A} {b : Nat} (ha : a ∈ caps) (hr : Y2o h a b) (hcp : Wg caps = true) : Y2o h (.fn f caps) b := by
 obtain ⟨i, hi⟩ := eU ha
 have j0 := Znu hcp hi
 have j1 : ∀ c ∈ Yk a, c ∈ Z78 caps := fun c hc => Zf6 hi hc
 obtain ⟨c, hc, t⟩ := hr
 cases a with
 | ptr c' i j =>
   refine ⟨c, .inr (j1 c ?_), t⟩
   rcases hc with hc | hc
   . simpa [nmX, Yk, A.cells, Zr, Xk] using hc
   . simpa [nmP, Yk] using hc
 | pl r j =>
   rcases hc with hc | hc
   . simp [nmX, Yk, A.cells, Zr, Xk] at hc
   . simp [nmP] at hc
 | _ => simp [Zmy] at j0
abbrev Ydr (E : Env) (tot : Nat) (op : AOp) (U U' : St) : Prop :=
 ∃ u F iv Md Rd, U' = ⟨put U.s op.dst u, F U.h, U.n, U.base⟩ /\ LocE (step E tot op) (Y2j op) U op.dst u F iv Md Rd /\ LocC U op iv Md Rd
theorem LocC.none {op : AOp} (hc : op.isCall = false) : LocC U op noN noN [] := ⟨fun b h => h.elim, fun b hb => by simp at hb, fun b h => h.elim, fun d nm w f xs e => by subst e; simp [AOp.isCall] at hc⟩
theorem Zez {n : Nat} {U U2 : St} : ∀ {xs : List Opd}, (∀ y ∈ xs, ev U2 y = ev U y) -> Z5o U2 n xs = Z5o U n xs
 | [], _ => rfl
 | x :: xs, h => by
   simp only [Z5o, h x dC, Zez (fun y hy => h y (eB _ hy))]
theorem Zav {n : Nat} {U U2 : St} : ∀ {xs : List Opd}, (∀ y ∈ xs, ev U2 y = ev U y) -> Z6r U2 n xs = Z6r U n xs
 | [], _ => rfl
 | x :: xs, h => by
   simp only [Z6r, h x dC, Zav (fun y hy => h y (eB _ hy))]
theorem Zq9 {op : AOp} (heasy : op.easy = true) (e : step E tot op U = some U') : Ydr E tot op U U' := by
 cases op with
 | stn nm ty p => simp [AOp.easy] at heasy
 | clr t zs x => simp [AOp.easy] at heasy
 | dcall d f xs => simp [AOp.easy] at heasy
 | dcf d f xs => simp [AOp.easy] at heasy
 | dcallv d y xs => simp [AOp.easy] at heasy
 | mkb d nm ty zs l c =>
   have e' := e
   simp only [step] at e'
   unfold Y33 at e'
   split at e'
   . rename_i k1 li k2 ci hl je
     split at e'
     . rename_i hc
       simp only [dM] at e'
       refine ⟨.ref ty (U.n + nm) 0 li.toNat li.toNat true, fun h => upd h (U.n + nm) (some ⟨ty, List.replicate li.toNat zs, true, true⟩), fun b => b = U.n + nm, noN, [], e'.symm, ⟨by rw [e, <- e']; rfl, fun h h' b q => Z5q q, fun b => ?_, fun b hb => by rcases hb with hb | hb; simp at hb; exact hb.elim, fun U2 h1 h2 h3 _ _ => ?_⟩, ⟨fun b hb => by subst hb; simp [AOp.names, X1], fun b hb => by simp at hb, fun b h => h.elim, nofun⟩⟩
       . by_cases hb : b = U.n + nm
         . exact .inl hb
         . exact .inr (.inr (.inl fun h => Z0o hb))
       . simp only [step, h1 l (by simp [AOp.opds]), h1 c (by simp [AOp.opds]), hl, je, Y33, h2, h3]
         rw [if_pos hc]; rfl
     . cases e'
   . cases e'
 | bsb d nm ty n xs =>
   have e' := e
   simp only [step] at e'
   obtain ⟨rows, j0, e1⟩ := Z6 e'
   simp only [dM] at e1
   refine ⟨.ref ty (U.n + nm) 0 rows.length rows.length true, fun h => upd h (U.n + nm) (some ⟨ty, rows, true, true⟩), fun b => b = U.n + nm, noN, [], e1.symm, ⟨by rw [e, <- e1]; rfl, fun h h' b q => Z5q q, fun b => ?_, fun b hb => by rcases hb with hb | hb; simp at hb; exact hb.elim, fun U2 h1 h2 h3 _ _ => ?_⟩, ⟨fun b hb => by subst hb; simp [AOp.names, X1], fun b hb => by simp at hb, fun b h => h.elim, nofun⟩⟩
   . by_cases hb : b = U.n + nm
     . exact .inl hb
     . exact .inr (.inr (.inl fun h => Z0o hb))
   . have q : Z5o U2 n xs = some rows := by rw [<- j0]; exact Zez (fun y hy => h1 y (by simpa [AOp.opds] using hy))
     simp only [step, q, h2, h3, bnd]; rfl
 | bll d ty n xs =>
   have e' := e
   simp only [step] at e'
   obtain ⟨rows, j0, e1⟩ := Z6 e'
   simp only [dM] at e1
   refine ⟨.lit ty rows, fun h => h, noN, noN, [], e1.symm, LocE.quiet (by rw [e, <- e1]; rfl) (fun b hb => by simp at hb) (fun U2 h1 h2 h3 _ => ?_), LocC.none rfl⟩
   have q : Z6r U2 n xs = some rows := by rw [<- j0]; exact Zav (fun y hy => h1 y (by simpa [AOp.opds] using hy))
   simp only [step, q, bnd]; rfl
 | callx d nm w f xs =>
   obtain ⟨u, F, rs, bs, h1, h2, h3, h4⟩ := Zwg (E := E) (U := U) (f := step E tot (.callx d nm w f xs)) (ag := Y2j (.callx d nm w f xs)) (as := evs U xs) (fn := f) (d := d) (nm := nm) (w := w) rfl (fun U2 q _ _ => by simp only [step, Z1r (U := U) (xs := xs) (fun y hy => q y hy)]) e
   refine ⟨u, F, _, noN, _, h1, h3, ⟨fun b hb => by simp only [AOp.names, X1] at hb ⊢; omega, fun b hb => .inl ⟨rfl, ?_⟩, fun b h => h.elim, nofun⟩⟩
   obtain ⟨a, ha, hr⟩ := h4 b hb
   obtain ⟨x, hx, rfl⟩ := Zhw ha
   exact ⟨x, hx, hr⟩
 | apb d nm t s x =>
   have e' := e
   simp only [step] at e'
   obtain ⟨ys, j6, e1⟩ := Z6 e'
   have e2 := e1
   unfold Zoy at e1
   split at e1
   . rename_i ty b len cap ex j8
     obtain ⟨k, hk, f1⟩ := Z6 e1
     have j1 := Zy0 j6
     split at f1
     . rename_i hc
       split at f1
       . rename_i j2
         simp only [dM] at f1
         refine ⟨.ref ty (U.n + nm) 0 (len + ys.length) (len + ys.length) false, fun h => upd (upd h b none) (U.n + nm) (some { k with rows := k.rows.take len ++ ys, box := if ys.length = 0 then k.box else true }), fun c => c = U.n + nm, fun c => c = b, Yk (ev U x), f1.symm,
          ⟨by rw [e, <- f1]; rfl, fun h h' c q => Z5q (Z5q q), fun c => ?_, fun c hc => ?_, fun U2 h1 h2 h3 h4 h5 => ?_⟩, ⟨fun c hc => by subst hc; simp [AOp.names, X1], fun c hc => .inr ⟨x, by simp [AOp.rdOpds], by simp [nmX, hc]⟩, fun c hc => ⟨s, by simp [AOp.mdOpds], by rw [hc, j8]; simp [Yk]⟩, nofun⟩⟩
         . by_cases hb : c = U.n + nm
           . exact .inl hb
           . by_cases hb2 : c = b
             . exact .inr (.inl hb2)
             . exact .inr (.inr (.inl fun h => by rw [Z0o hb, Z0o hb2]))
         . rcases hc with hc | hc
           . exact j1 c hc
           . rw [hc, hk]; simp
         . have j3 : U2.h b = some k := (h5 b rfl).trans hk
           have q1 := Zsq j6 h4
           simp only [step, h1 s (by simp [AOp.opds]), h1 x (by simp [AOp.opds]), q1, bnd, j8, Zoy, j3, h2, h3]
           rw [if_pos hc, if_pos j2]; rfl
       . rename_i j2
         rw [if_neg (by simp)] at f1
         cases f1
     . cases f1
   . cases e1
 | dcs d f xs => simp [AOp.easy] at heasy
 | no why => simp [AOp.easy] at heasy
 | mvn d nm ty =>
   have e' := e
   simp only [step, dM] at e'
   refine ⟨_, fun h => upd h (U.n + nm) (some ⟨ty, [], true, false⟩), fun b => b = U.n + nm, noN, [], e'.symm, ⟨by rw [e, <- e']; rfl, fun h h' b q => Z5q q, fun b => ?_, fun b hb => by rcases hb with hb | hb; simp at hb; exact hb.elim, fun U2 _ h2 h3 _ _ => ?_⟩, ⟨fun b hb => by subst hb; simp [AOp.names, X1], fun b hb => by simp at hb, fun b h => h.elim, nofun⟩⟩
   . by_cases hb : b = U.n + nm
     . exact .inl hb
     . exact .inr (.inr (.inl fun h => Z0o hb))
   . simp only [step, h2, h3, put]; rfl
 | al d nm ty zs =>
   have e' := e
   simp only [step, dM] at e'
   refine ⟨.ptr (U.n + nm) 0 0, fun h => upd (Zy h (U.n + nm + 1) zs).2 (U.n + nm) (some ⟨ty, [(Zy U.h (U.n + nm + 1) zs).1], true, true⟩), X1 (U.n + nm) (1 + (zs.filter V8).length), noN, [], e'.symm,
    ⟨by rw [e, <- e']; rfl, fun h h' b q => Z5q (Z9n _ _ _ _ _ q), fun b => ?_, fun b hb => by rcases hb with hb | hb; simp at hb; exact hb.elim, fun U2 _ h2 h3 _ _ => ?_⟩, ⟨fun b hb => by simpa [AOp.names] using hb, fun b hb => by simp at hb, fun b h => h.elim, nofun⟩⟩
   . by_cases hb : X1 (U.n + nm) (1 + (zs.filter V8).length) b
     . exact .inl hb
     . refine .inr (.inr (.inl fun h => ?_))
       rw [Z0o (by simp only [X1] at hb; omega), Z7l _ _ _ _ (by simp only [X1] at hb ⊢; omega)]
   . simp only [step, h2, h3, put]
     rw [Z7z zs U2.h U.h]; rfl
 | box d nm ty n x =>
   have e' := e
   simp only [step] at e'
   split at e'
   . rename_i hc
     simp only [dM] at e'
     refine ⟨.ptr (U.n + nm) 0 0, fun h => upd h (U.n + nm) (some ⟨ty, [(ev U x).cells], true, true⟩), fun b => b = U.n + nm, noN, [], e'.symm, ⟨by rw [e, <- e']; rfl, fun h h' b q => Z5q q, fun b => ?_, fun b hb => by rcases hb with hb | hb; simp at hb; exact hb.elim, fun U2 h1 h2 h3 _ _ => ?_⟩, ⟨fun b hb => by subst hb; simp [AOp.names, X1], fun b hb => by simp at hb, fun b h => h.elim, nofun⟩⟩
     . by_cases hb : b = U.n + nm
       . exact .inl hb
       . exact .inr (.inr (.inl fun h => Z0o hb))
     . simp only [step, h2, h3, put, h1 x (by simp [AOp.opds])]
       rw [if_pos hc]; rfl
   . cases e'
 | bld d nm zs ps =>
   have e' := e
   simp only [step] at e'
   obtain ⟨cs, jb, e1⟩ := Z6 e'
   simp only [dM] at e1
   refine ⟨.agg cs, fun h => (Zy h (U.n + nm) zs).2, X1 (U.n + nm) (zs.filter V8).length, noN, [], e1.symm,
    ⟨by rw [e, <- e1]; rfl, fun h h' b q => Z9n _ _ _ _ _ q, fun b => ?_, fun b hb => by rcases hb with hb | hb; simp at hb; exact hb.elim, fun U2 h1 h2 h3 _ _ => ?_⟩, ⟨fun b hb => by simpa [AOp.names] using hb, fun b hb => by simp at hb, fun b h => h.elim, nofun⟩⟩
   . by_cases hb : X1 (U.n + nm) (zs.filter V8).length b
     . exact .inl hb
     . exact .inr (.inr (.inl fun h => Z7l _ _ _ _ hb))
   . simp only [step, h2, h3, put]
     rw [Z7z zs U2.h U.h, Zgt (U := U) (fun y hy => h1 y hy), jb]; rfl
 | bsl d nm ty n xs =>
   have e' := e
   simp only [step] at e'
   obtain ⟨rows, j0, e1⟩ := Z6 e'
   simp only [dM] at e1
   have j1 : ∀ b ∈ Xw U xs, U.h b ≠ none := Zge j0
   refine ⟨.ref ty (U.n + nm) 0 rows.length rows.length true, fun h => frz (upd h (U.n + nm) (some ⟨ty, rows, true, false⟩)) (Xw U xs), fun b => b = U.n + nm, noN, Xw U xs, e1.symm,
    ⟨by rw [e, <- e1]; rfl, fun h h' b q => ?_, fun b => ?_, fun b hb => by rcases hb with hb | hb; exact j1 b hb; exact hb.elim, fun U2 h1 h2 h3 h4 _ => ?_⟩, ⟨fun b hb => by subst hb; simp [AOp.names, X1], fun b hb => .inr (Zgf hb), fun b h => h.elim, nofun⟩⟩
   . simp only [Z6m]; rw [Z5q q]
   . by_cases hb : b = U.n + nm
     . exact .inl hb
     . by_cases hm : b ∈ Xw U xs
       . exact .inr (.inr (.inr ⟨hm, fun h => by rw [Z6m, if_pos hm, Z0o hb]⟩))
       . exact .inr (.inr (.inl fun h => by rw [Z6m, if_neg hm, Z0o hb]))
   . obtain ⟨q1, _⟩ := Zdz j0 h1 h4
     simp only [step, h2, h3, put, q1, bnd]
     rw [Zfj (U := U) (xs := xs) h1]; rfl
 | st n p x =>
   have e' := e
   simp only [step] at e'
   obtain ⟨hh, jf, e1⟩ := Z6 e'
   simp only [dM] at e1
   have hp : ∀ U2, Y2j (.st n p x) U U2 -> ev U2 p = ev U p /\ ev U2 x = ev U x := fun U2 q => ⟨q p (by simp [AOp.opds]), q x (by simp [AOp.opds])⟩
   have j4 := jf
   unfold storeAt at j4
   split at j4
   . rename_i b i j jc
     obtain ⟨k, hk, f1⟩ := Z6 j4
     obtain ⟨row, ja, f2⟩ := Z6 f1
     unfold Z7t at f2
     split at f2
     . rename_i hc
       split at f2
       . rename_i j5
         split at f2
         . cases f2
         . rename_i jd
           simp only [dM] at f2
           refine ⟨.und, fun h => upd h b (some { k with rows := k.rows.set i (Z3e row j (ev U x).cells) }), noN, fun c => c = b, [], by rw [<- e1, <- f2]; rfl,
            ⟨by rw [e, <- e1, <- f2]; rfl, fun h h' b q => Z5q q, fun c => ?_, fun c hc => by rcases hc with hc | hc; simp at hc; subst hc; rw [hk]; simp, fun U2 h1 h2 h3 _ h5 => ?_⟩, ⟨fun b h => h.elim, fun b hb => by simp at hb, fun c hc => ⟨p, by simp [AOp.mdOpds], by rw [hc, jc]; simp [Yk]⟩, nofun⟩⟩
           . by_cases hb : c = b
             . exact .inr (.inl hb)
             . exact .inr (.inr (.inl fun h => Z0o hb))
           . obtain ⟨g1, g2⟩ := hp U2 h1
             have j3 : U2.h b = some k := (h5 b rfl).trans hk
             simp only [step, g1, g2, jc, storeAt, j3, bnd, ja, Z7t, h2, h3]
             rw [if_pos hc, if_pos j5, if_neg jd]; rfl
       . rename_i j5
         obtain ⟨cs, jb, f3⟩ := Z6 f2
         simp only [dM] at f3
         have j1 := (Zdq jb)
         refine ⟨.und, fun h => frz (upd h b (some { k with rows := k.rows.set i (Z3e row j cs) })) (Zr (ev U x).cells), noN, fun c => c = b, Zr (ev U x).cells, by rw [<- e1, <- f3]; rfl,
          ⟨by rw [e, <- e1, <- f3]; rfl, fun h h' b q => ?_, fun c => ?_, fun c hc => ?_, fun U2 h1 h2 h3 h4 h5 => ?_⟩, ⟨fun b h => h.elim, fun c hc => .inr ⟨x, by simp [AOp.rdOpds], by simp [nmX, hc]⟩, fun c hc => ⟨p, by simp [AOp.mdOpds], by rw [hc, jc]; simp [Yk]⟩, nofun⟩⟩
         . simp only [Z6m]; rw [Z5q q]
         . by_cases hb : c = b
           . exact .inr (.inl hb)
           . by_cases hm : c ∈ Zr (ev U x).cells
             . exact .inr (.inr (.inr ⟨hm, fun h => by rw [Z6m, if_pos hm, Z0o hb]⟩))
             . exact .inr (.inr (.inl fun h => by rw [Z6m, if_neg hm, Z0o hb]))
         . rcases hc with hc | hc
           . exact j1 c hc
           . subst hc; rw [hk]; simp
         . obtain ⟨g1, g2⟩ := hp U2 h1
           have j3 : U2.h b = some k := (h5 b rfl).trans hk
           obtain ⟨q1, _⟩ := Z3g jb h4
           simp only [step, g1, g2, jc, storeAt, j3, bnd, ja, Z7t, h2, h3]
           rw [if_pos hc, if_neg j5, q1]; rfl
     . cases f2
   . cases j4
 | mkf d f caps =>
   have e' := e
   simp only [step] at e'
   split at e'
   . rename_i hc
     simp only [dM] at e'
     refine ⟨.fn f (evs U caps), fun h => h, noN, noN, [], e'.symm, LocE.quiet (by rw [e, <- e']; rfl) (fun b hb => by simp at hb) (fun U2 h1 h2 h3 _ => ?_), LocC.none rfl⟩
     simp only [step, Z1r (U := U) (xs := caps) (fun y hy => h1 y hy)]
     rw [if_pos hc]; rfl
   . cases e'
 | mks d nm ty zs l c =>
   have e' := e
   simp only [step] at e'
   unfold Y30 at e'
   split at e'
   . rename_i k1 li k2 ci hl je
     split at e'
     . rename_i hc
       simp only [dM] at e'
       refine ⟨.ref ty (U.n + nm) 0 li.toNat li.toNat true, fun h => upd h (U.n + nm) (some ⟨ty, List.replicate li.toNat zs, true, false⟩), fun b => b = U.n + nm, noN, [], e'.symm, ⟨by rw [e, <- e']; rfl, fun h h' b q => Z5q q, fun b => ?_, fun b hb => by rcases hb with hb | hb; simp at hb; exact hb.elim, fun U2 h1 h2 h3 _ _ => ?_⟩, ⟨fun b hb => by subst hb; simp [AOp.names, X1], fun b hb => by simp at hb, fun b h => h.elim, nofun⟩⟩
       . by_cases hb : b = U.n + nm
         . exact .inl hb
         . exact .inr (.inr (.inl fun h => Z0o hb))
       . simp only [step, h1 l (by simp [AOp.opds]), h1 c (by simp [AOp.opds]), hl, je, Y30, h2, h3]
         rw [if_pos hc]; rfl
     . cases e'
   . cases e'
 | sl d t x lo hi mx =>
   have e' := e
   simp only [step] at e'
   obtain ⟨u, hu, e1⟩ := Z6 e'
   simp only [dM] at e1
   refine ⟨u, fun h => h, noN, noN, [], e1.symm, LocE.quiet (by rw [e, <- e1]; rfl) (fun b hb => by simp at hb) (fun U2 h1 h2 h3 _ => ?_), LocC.none rfl⟩
   have hm : ∀ y, y ∈ lo.toList \/ y ∈ hi.toList \/ y ∈ mx.toList -> ev U2 y = ev U y := fun y hy => h1 y (by
    simp only [AOp.opds, eK, dW]
    rcases hy with hy | hy | hy
    . exact .inr (.inl (.inl hy))
    . exact .inr (.inl (.inr hy))
    . exact .inr (.inr hy))
   simp only [step, h1 x (by simp [AOp.opds])]
   rw [Zdp (U := U) (fun y hy => hm y (.inl hy)) (fun y hy => hm y (.inr (.inl hy))) (fun y hy => hm y (.inr (.inr hy))), hu]; rfl
 | call d nm w f xs =>
   obtain ⟨u, F, rs, h1, h2, h3⟩ := Zqx (E := E) (U := U) (f := step E tot (.call d nm w f xs)) (ag := Y2j (.call d nm w f xs)) (as := evs U xs) (fn := f) (d := d) (nm := nm) (w := w) rfl (fun U2 q _ _ => by simp only [step, Z1r (U := U) (xs := xs) (fun y hy => q y hy)]) e
   refine ⟨u, F, _, noN, _, h1, h3, ⟨fun b hb => by simp only [AOp.names, X1] at hb ⊢; omega, fun b hb => .inl ⟨rfl, ?_⟩, fun b h => h.elim, fun d nm w f xs e b hb => by cases e; exact hb⟩⟩
   obtain ⟨a, ha, hr⟩ := Z9m hb
   obtain ⟨x, hx, rfl⟩ := Zhw ha
   exact ⟨x, hx, hr⟩
 | callv d nm w y xs =>
   have e' := e
   simp only [step] at e'
   obtain ⟨p, hp, e1⟩ := Z6 e'
   obtain ⟨u, F, rs, h1, h2, h3⟩ := Zqx (E := E) (U := U) (f := step E tot (.callv d nm w y xs)) (ag := Y2j (.callv d nm w y xs)) (as := evs U xs ++ p.2) (fn := p.1) (d := d) (nm := nm) (w := w) (by simp only [step, hp, bnd])
    (fun U2 q _ _ => by simp only [step, Z1r (U := U) (xs := xs) (fun z hz => q z (by simp [AOp.opds, hz])), q y (by simp [AOp.opds]), hp, bnd]) e
   refine ⟨u, F, _, noN, _, h1, h3, ⟨fun b hb => by simp only [AOp.names, X1] at hb ⊢; omega, fun b hb => .inl ⟨rfl, ?_⟩, fun b h => h.elim, nofun⟩⟩
   obtain ⟨a, ha, hr⟩ := Z9m hb
   rcases dW.1 ha with ha | ha
   . obtain ⟨x, hx, rfl⟩ := Zhw ha
     exact ⟨x, by simp [AOp.opds, hx], hr⟩
   . refine ⟨y, by simp [AOp.opds], ?_⟩
     have hy : ev U y = .fn p.1 p.2 := by
      cases hv : ev U y with
      | fn f caps =>
        rw [hv] at hp
        simp only [fnA] at hp
        cases j7 : Wg caps with
        | false => rw [j7] at hp; cases hp
        | true => rw [j7] at hp; simp only [cond_true, dM] at hp; rw [<- hp]
      | _ => rw [hv] at hp; simp [fnA] at hp
     have j7 : Wg p.2 = true := by
      rw [hy] at hp
      simp only [fnA] at hp
      cases j7 : Wg p.2 with
      | false => rw [j7] at hp; cases hp
      | true => rfl
     rw [hy]
     exact Y0k ha hr j7
 | app d nm t s x =>
   have e' := e
   simp only [step] at e'
   obtain ⟨ys, j6, e1⟩ := Z6 e'
   have e2 := e1
   unfold Zr4 at e1
   split at e1
   . rename_i ty b len cap ex j8
     obtain ⟨k, hk, f1⟩ := Z6 e1
     have j1 := (Z80 (h' := U.h) j6 (fun b hb => Same.refl (Zgo j6 b hb))).2
     split at f1
     . rename_i hc
       have mdx : ∀ c, c = b -> ∃ y ∈ (AOp.app d nm t s x).mdOpds, c ∈ Yk (ev U y) := fun c hc => ⟨s, by simp [AOp.mdOpds], by rw [hc, j8]; simp [Yk]⟩
       have rdx : ∀ c ∈ Yk (ev U x), ((AOp.app d nm t s x).isCall = true /\ Rch U (.app d nm t s x) c) \/ ∃ y ∈ (AOp.app d nm t s x).rdOpds, c ∈ nmX (ev U y) := fun c hc => .inr ⟨x, by simp [AOp.rdOpds], by simp [nmX, hc]⟩
       have j9 : ∀ c, c ∈ Yk (ev U x) \/ c = b -> U.h c ≠ none := fun c hc => by
        rcases hc with hc | hc
        . exact j1 c hc
        . rw [hc, hk]; simp
       split at f1
       . rename_i j2
         simp only [dM] at f1
         refine ⟨.ref ty (U.n + nm) 0 (len + ys.length) (len + ys.length) false, fun h => upd (upd h b none) (U.n + nm) (some { k with rows := k.rows.take len ++ ys }), fun c => c = U.n + nm, fun c => c = b, Yk (ev U x), f1.symm,
          ⟨by rw [e, <- f1]; rfl, fun h h' c q => Z5q (Z5q q), fun c => ?_, j9, fun U2 h1 h2 h3 h4 h5 => ?_⟩, ⟨fun c hc => by subst hc; simp [AOp.names, X1], rdx, mdx, nofun⟩⟩
         . by_cases hb : c = U.n + nm
           . exact .inl hb
           . by_cases hb2 : c = b
             . exact .inr (.inl hb2)
             . exact .inr (.inr (.inl fun h => by rw [Z0o hb, Z0o hb2]))
         . have j3 : U2.h b = some k := (h5 b rfl).trans hk
           obtain ⟨q1, _⟩ := Z80 j6 h4
           simp only [step, h1 s (by simp [AOp.opds]), h1 x (by simp [AOp.opds]), q1, bnd, j8, Zr4, j3, h2, h3]
           rw [if_pos hc, if_pos j2]; rfl
       . rename_i j2
         split at f1
         . rename_i jg
           simp only [dM] at f1
           refine ⟨.ref ty b 0 (len + ys.length) cap ex, fun h => upd h b (some { k with rows := k.rows.take len ++ ys ++ k.rows.drop (len + ys.length) }), noN, fun c => c = b, Yk (ev U x), f1.symm,
            ⟨by rw [e, <- f1]; rfl, fun h h' c q => Z5q q, fun c => ?_, j9, fun U2 h1 h2 h3 h4 h5 => ?_⟩, ⟨fun c hc => hc.elim, rdx, mdx, nofun⟩⟩
           . by_cases hb2 : c = b
             . exact .inr (.inl hb2)
             . exact .inr (.inr (.inl fun h => by rw [Z0o hb2]))
           . have j3 : U2.h b = some k := (h5 b rfl).trans hk
             obtain ⟨q1, _⟩ := Z80 j6 h4
             simp only [step, h1 s (by simp [AOp.opds]), h1 x (by simp [AOp.opds]), q1, bnd, j8, Zr4, j3, h2, h3]
             rw [if_pos hc, if_neg j2, if_pos jg]; rfl
         . cases f1
     . cases f1
   . cases e1
 | _ =>
   have e' := e
   simp only [step, AOp.yields, Xl] at e'
   obtain ⟨u, hu, e1⟩ := Z6 e'
   simp only [dM] at e1
   refine ⟨u, fun h => h, noN, noN, _, e1.symm, LocE.quiet (by rw [e, <- e1]; rfl) (Z8j hu) (fun U2 h1 h2 h3 h4 => ?_), ⟨fun b h => h.elim, fun b hb => .inr (Zwm (O := U) (h := U.h) (get := fun x => some (ev U x)) rfl (fun x _ v hv => by simp only [dM] at hv; exact hv.symm) rfl b hb), fun b h => h.elim, nofun⟩⟩
   obtain ⟨q1, _⟩ := Z2j (get' := fun x => some (ev U2 x)) (pk' := fun q x => evq q U2 x) hu (fun x hx => by rw [h1 x hx]) (fun q x hx => by simp only [evq, h1 x hx]) h4
   simp only [step, AOp.yields, Xl]
   rw [q1]; rfl
def Zca : G -> St -> St
 | .o _, U => U
 | .g _ _ _, U => strip U
def Y2l : A -> Bool
 | .v _ | .lit _ _ => true
 | _ => false
def clean : A -> Bool
 | .v _ | .lit _ _ => true
 | .agg cs => cs.all Y2l
 | .fn _ [] => true
 | _ => false
def Vo : Opd -> Bool
 | .t _ => true
 | .k a => clean a
def Z4o : List Opd -> List Nat
 | [] => []
 | .t n :: xs => n :: Z4o xs
 | _ :: xs => Z4o xs
def G.looks : G -> List Nat
 | .o op => Z4o op.opds
 | .g s _ op => s :: Z4o op.opds
def G.active : G -> St -> Prop
 | .o _, _ => True
 | .g s w _, U => Z4g U s w = some true
def agG (g : G) (U U2 : St) : Prop := ∀ t ∈ g.looks, U2.s t = U.s t
theorem Z1g : ∀ {xs : List Opd} {n : Nat}, .t n ∈ xs -> n ∈ Z4o xs
 | [], n, h => by simp at h
 | x :: xs, n, h => by
   rcases eK.1 h with rfl | h
   . simp [Z4o]
   . have := Z1g h
     cases x <;> simp [Z4o, this]
theorem Znm {g : G} (q : agG g U U2) {n : Nat} (h : .t n ∈ g.op.opds) : U2.s n = U.s n := by
 refine q n ?_
 cases g with
 | o op => exact Z1g h
 | g s w op => exact eB _ (Z1g h)
theorem Z84 {g : G} (q : agG g U U2) : ∀ x ∈ g.op.opds, ev U2 x = ev U x := fun x hx => by
 cases x with
 | t n => exact Znm q hx
 | k a => rfl
theorem Zid {g : G} (q : agG g U U2) : Y2j g.op (strip U) (strip U2) := fun x hx => by
 cases x with
 | t n => simp only [ev, strip, Znm q hx]
 | k a => rfl
theorem Zq4 {a v : A} (e : opA true a = some v) : v = unT a := by
 unfold opA at e
 split at e
 . rename_i g b
   cases g with
   | true => simp [imp] at e; subst e; rfl
   | false => simp [imp] at e
 . rename_i j0
   simp only [dM] at e
   subst e
   unfold unT
   split
   . rename_i b; exact absurd rfl (j0 true b)
   . rfl
theorem Zbp {x : Opd} {v : A} (hc : Vo x = true) (e : evp true U x = some v) : v = ev (strip U) x := by
 cases x with
 | t n => exact Zq4 e
 | k a =>
   have h := Zq4 e
   rw [h]
   cases a <;> first | rfl | (simp [Vo, clean] at hc)
theorem Zqe {f : Opd -> Option A} : ∀ {xs : List Opd} {as : List A}, xs.mapM f = some as -> ∀ a ∈ as, ∃ x ∈ xs, f x = some a
 | [], as, e, a, h => by simp at e; subst e; simp at h
 | x :: xs, as, e, a, h => by
   rw [gL] at e
   cases hv : f x with
   | none => rw [hv] at e; cases e
   | some v =>
     rw [hv] at e
     cases hvs : xs.mapM f with
     | none => simp [hvs] at e
     | some vs =>
       simp [hvs] at e
       subst e
       rcases eK.1 h with rfl | h
       . exact ⟨x, by simp, hv⟩
       . obtain ⟨y, hy, e⟩ := Zqe hvs a h
         exact ⟨y, by simp [hy], e⟩
theorem Zpp : ∀ {xs : List Opd} {cs : List A}, xs.all Vo = true -> Z0t h (evs (strip U) xs) = some cs -> xs.mapM (fun x => evp true U x) = some (evs (strip U) xs)
 | [], cs, _, _ => rfl
 | x :: xs, cs, hc, e => by
   simp only [gZ, dQ] at hc
   obtain ⟨c, j0, e1⟩ := Z6 e
   obtain ⟨j2, j1, _⟩ := Z6 e1
   have one : evp true U x = some (ev (strip U) x) := by
    cases x with
    | t n =>
      simp only [ev, strip] at j0 ⊢
      simp only [evp, ev]
      cases ha : U.s n with
      | ifg g b =>
        rw [ha] at j0
        cases g with
        | true => simp [opA, imp, unT]
        | false => simp [unT, Zbe, Wz] at j0
      | _ => rfl
    | k a =>
      simp only [evp, ev]
      have := hc.1
      cases a <;> first | rfl | (simp [Vo, clean] at this)
   rw [gL, one, Zpp hc.2 j1]
   rfl
theorem Zdw {op : AOp} {U1 : St} {pk pk2 : Bool -> Opd -> Option Bool} (hy : op.yields = none) (hcl : op.opds.all Vo = true) (hs : step E tot op (strip U) = some U1) (hn : Ya E U.h (fun x => evp true U x) pk op = none)
 (ha : ∀ x ∈ op.opds, evp true U2 x = evp true U x) (hsame : ∀ d nm w f xs, op = .call d nm w f xs -> ∀ b ∈ Xm U.h (evs (strip U) xs), Same (U.h b) (U2.h b)) : Ya E U2.h (fun x => evp true U2 x) pk2 op = none := by
 cases op with
 | call d nm w f xs =>
   simp only [step, Z3y] at hs
   obtain ⟨cs, j3, e1⟩ := Z6 hs
   obtain ⟨rs, j2, _⟩ := Z6 e1
   have j0 : Z0t U.h (evs (strip U) xs) = some cs := j3
   have hm := Zpp (h := U.h) (xs := xs) hcl j0
   have j4 : xs.mapM (fun x => evp true U2 x) = some (evs (strip U) xs) :=
    (Zcs (f := fun x => evp true U x) (xs := xs) (fun x hx => ha x hx)).trans hm
   obtain ⟨q1, _⟩ := Z7x j0 (hsame d nm w f xs rfl)
   have j1 : bnd (bnd (bnd (xs.mapM (fun x => evp true U x)) (Z0t U.h)) (E.call f)) Zh8 = none := hn
   show bnd (bnd (bnd (xs.mapM (fun x => evp true U2 x)) (Z0t U2.h)) (E.call f)) Zh8 = none
   rw [hm] at j1
   rw [j4]
   simp only [bnd, j0, q1, j2] at j1 ⊢
   exact j1
 | bld d nm zs ps =>
   cases ps with
   | nil =>
     simp only [Ya] at hn ⊢
     exact hn
   | cons p ps => rfl
 | _ => first | rfl | (simp [AOp.yields] at hy)
theorem Z97 {g : G} (heasy : g.op.easy = true) (hcl : g.op.opds.all Vo = true) (hact : g.active U) (e : Yp E tot g U = some U') :
 ∃ u F iv Md Rd, U' = ⟨put U.s g.op.dst u, F U.h, U.n, U.base⟩ /\ LocE (Yp E tot g) (agG g) U g.op.dst u F iv Md Rd /\ LocX (Zca g U) g.op iv Md Rd := by
 cases g with
 | o op =>
   obtain ⟨u, F, iv, Md, Rd, h1, h2, h3⟩ := Zq9 (op := op) heasy e
   exact ⟨u, F, iv, Md, Rd, h1, ⟨h2.eq, h2.pw, h2.cls, h2.has, fun U2 q => h2.move U2 (Z84 q)⟩, h3.x⟩
 | g s w op =>
   simp only [G.op] at heasy hcl
   have ht : Z4g U s w = some true := hact
   have j3 : ∀ U2, agG (.g s w op) U U2 -> Z4g U2 s w = some true := fun U2 q => by
    unfold Z4g at ht ⊢
    rw [q s (by simp [G.looks])]
    exact ht
   have j4 : ∀ U2, agG (.g s w op) U U2 -> ∀ x ∈ op.opds, evp true U2 x = evp true U x := fun U2 q x hx => by
    unfold evp
    rw [Z84 (g := .g s w op) q x hx]
   have j1 : ∀ U2, agG (.g s w op) U U2 -> ∀ r, ∀ x ∈ op.opds, evq (true && r) U2 x = evq (true && r) U x := fun U2 q r x hx => by
    unfold evq
    rw [Z84 (g := .g s w op) q x hx]
   have e0 := e
   simp only [Yp, ht, Xl] at e
   cases hy : op.yields with
   | some d =>
     rw [hy] at e
     simp only [Wi] at e
     have hd := (Z2h hy).1
     split at e
     . rename_i u hu
       simp only [dM] at e
       have j7 : op.isCall = false := by cases op <;> first | rfl | (simp [AOp.yields] at hy)
       refine ⟨.ifg true u, fun h => h, noN, noN, _, by rw [<- e]; simp only [G.op, hd], LocE.quiet (by rw [e0, <- e]; simp only [G.op, hd]) (Z8j hu) (fun U2 h1 h2 h3 h4 => ?_),
        ⟨fun b h => h.elim, fun b hb => .inr (Zwm (O := strip U) (h := U.h) rfl (fun x hx v hv => Zbp (cY.1 hcl x hx) hv) j7 b hb), fun b h => h.elim⟩⟩
       obtain ⟨q1, _⟩ := Z2j (get' := fun x => evp true U2 x) (pk' := fun q x => evq (true && q) U2 x) hu (j4 U2 h1) (j1 U2 h1) h4
       simp only [Yp, j3 U2 h1, Xl, hy, q1, Wi]
       simp only [G.op, hd]
     . cases e
   | none =>
     rw [hy] at e
     simp only [Xv] at e
     split at e
     . rename_i u hu
       simp only [dM] at e
       refine ⟨.ifg true u, fun h => h, noN, noN, _, by rw [<- e]; rfl, LocE.quiet (by rw [e0, <- e]; rfl) (Z8j hu) (fun U2 h1 h2 h3 h4 => ?_), ⟨fun b h => h.elim, fun b hb => ?_, fun b h => h.elim⟩⟩
       . obtain ⟨q1, _⟩ := Z2j (get' := fun x => evp true U2 x) (pk' := fun q x => evq (true && q) U2 x) hu (j4 U2 h1) (j1 U2 h1) h4
         simp only [Yp, j3 U2 h1, Xl, hy, q1, Xv]; rfl
       . cases hc : op.isCall with
         | false => exact .inr (Zwm (O := strip U) (h := U.h) rfl (fun x hx v hv => Zbp (cY.1 hcl x hx) hv) hc b hb)
         | true =>
           refine .inl ⟨hc, ?_⟩
           cases op with
           | call d nm wd f xs =>
             simp only [rdV] at hb
             split at hb
             . rename_i as has
               obtain ⟨a, ha, hr⟩ := Z9m hb
               obtain ⟨x, hx, he⟩ := Zqe has a ha
               have j8 : Vo x = true := cY.1 hcl x hx
               have j6 := Zbp j8 he
               subst j6
               exact ⟨x, hx, hr⟩
             . simp at hb
           | callv d nm wd y xs => simp [rdV] at hb
           | callx d nm wd f xs => simp [rdV] at hb
           | _ => simp [AOp.isCall] at hc
     . rename_i j2
       simp only [cond_true] at e
       obtain ⟨U1, j5, e2⟩ := Z6 e
       obtain ⟨u, F, iv, Md, Rd, h1, h2, h3⟩ := Zq9 (op := op) heasy j5
       have j0 : ∀ O : St, back O op.dst ⟨put (strip O).s op.dst u, F O.h, O.n, O.base⟩ = some ⟨put O.s op.dst u, F O.h, O.n, O.base⟩ := fun O => by
        unfold back
        cases op.dst with
        | none => rfl
        | some d => simp [put, Z7]
       have he : U' = ⟨put U.s op.dst u, F U.h, U.n, U.base⟩ := by
        rw [h1] at e2
        have := j0 U
        have hh : (strip U).h = U.h := rfl
        rw [hh] at e2
        rw [show (strip U).n = U.n from rfl, show (strip U).base = U.base from rfl, this] at e2
        simp only [dM] at e2
        exact e2.symm
       refine ⟨u, F, iv, Md, Rd, he, ⟨by rw [e0, he]; rfl, h2.pw, h2.cls, h2.has, fun U2 q1 q2 q3 q4 q5 => ?_⟩, h3.x⟩
       have ja := h2.move (strip U2) (Zid (g := .g s w op) q1) q2 q3 q4 q5
       have j9 : Ya E U2.h (fun x => evp true U2 x) (fun r x => evq (true && r) U2 x) op = none := by
        refine Zdw hy hcl j5 j2 (j4 U2 q1) (fun d nm wd f xs jb b hb => ?_)
        subst jb
        exact q4 b (h3.call d nm wd f xs rfl b hb)
       simp only [Yp, j3 U2 q1, Xl, hy, j9, Xv, cond_true]
       rw [ja]
       exact j0 U2
end Go.Vm
namespace Go.Vm
open Go.RowKit
variable {h : Hp} {U U' U1 U2 : St} {E : Env} {tot : Nat}
def Ydh (u : A) : Prop := u = .und \/ ∃ a, u = .ifg false a
inductive Does (E : Env) (tot : Nat) : G -> St -> St -> Prop
 | run {g : G} {U U' : St} (h : g.active U) (e : Yp E tot g U = some U') : Does E tot g U U'
 | skip {s : Nat} {w : Bool} {op : AOp} {U : St} {u : A} (h : Z4g U s w = some false) (hu : Ydh u) : Does E tot (.g s w op) U ⟨put U.s op.dst u, U.h, U.n, U.base⟩
theorem Zss {g : G} (e : Yp E tot g U = some U') : Does E tot g U U' := by
 cases g with
 | o op => exact .run trivial e
 | g s w op =>
   have e0 := e
   obtain ⟨t, ht, e1⟩ := Z6 e
   cases t with
   | true => exact .run ht e0
   | false =>
     split at e1
     . rename_i d hy
       rw [<- (Z2h hy).1] at e1
       unfold Wi at e1
       split at e1
       . simp only [dM] at e1; subst e1; exact .skip ht (.inr ⟨_, rfl⟩)
       . simp only [cond_false, dM] at e1; subst e1; exact .skip ht (.inl rfl)
     . unfold Xv at e1
       split at e1
       . simp only [dM] at e1; subst e1; exact .skip ht (.inr ⟨_, rfl⟩)
       . simp only [cond_false, dM] at e1; subst e1; exact .skip ht (.inl rfl)
def AOp.light : AOp -> Bool
 | .mv _ _ | .pick _ _ _ _ | .bin _ _ _ _ | .eqs _ _ _ _ _ | .beq _ _ _ _ | .un _ _ _ | .cv _ _ _ | .fa _ _ _ | .fld _ _ _ _ _ | .ia _ _ _ _ | .ix _ _ _ | .ex _ _ _ | .len _ _ _ | .mnx _ _ _ _ | .nl _ _ | .sl _ _ _ _ _ _ | .mkf _ _ _ | .bll _ _ _ _ => true
 | _ => false
theorem Zpz {op : AOp} (hl : op.light = true) (h : Hp) (get : Opd -> Option A) : rdV h get op = [] := by
 cases op <;> first | rfl | (simp [AOp.light] at hl)
theorem Zh6 {op : AOp} (hl : op.light = true) (e : step E tot op U = some U') : ∃ u, U' = ⟨put U.s op.dst u, U.h, U.n, U.base⟩ /\ ∀ U2, Y2j op U U2 -> step E tot op U2 = some ⟨put U2.s op.dst u, U2.h, U2.n, U2.base⟩ := by
 cases op with
 | mkf d f caps =>
   simp only [step] at e
   split at e
   . rename_i hc
     simp only [dM] at e
     refine ⟨.fn f (evs U caps), e.symm, fun U2 h1 => ?_⟩
     simp only [step, Z1r (U := U) (xs := caps) (fun y hy => h1 y hy)]
     rw [if_pos hc]; rfl
   . cases e
 | bll d ty n xs =>
   simp only [step] at e
   obtain ⟨rows, j0, e1⟩ := Z6 e
   simp only [dM] at e1
   refine ⟨.lit ty rows, e1.symm, fun U2 h1 => ?_⟩
   have q : Z6r U2 n xs = some rows := by rw [<- j0]; exact Zav (fun y hy => h1 y (by simpa [AOp.opds] using hy))
   simp only [step, q, bnd]; rfl
 | sl d t x lo hi mx =>
   simp only [step] at e
   obtain ⟨u, hu, e1⟩ := Z6 e
   simp only [dM] at e1
   refine ⟨u, e1.symm, fun U2 h1 => ?_⟩
   have hm : ∀ y, y ∈ lo.toList \/ y ∈ hi.toList \/ y ∈ mx.toList -> ev U2 y = ev U y := fun y hy => h1 y (by
    simp only [AOp.opds, eK, dW]
    rcases hy with hy | hy | hy
    . exact .inr (.inl (.inl hy))
    . exact .inr (.inl (.inr hy))
    . exact .inr (.inr hy))
   simp only [step, h1 x (by simp [AOp.opds])]
   rw [Zdp (U := U) (fun y hy => hm y (.inl hy)) (fun y hy => hm y (.inr (.inl hy))) (fun y hy => hm y (.inr (.inr hy))), hu]; rfl
 | _ =>
   first
   | (simp [AOp.light] at hl; done)
   | (simp only [step, AOp.yields, Xl] at e
      obtain ⟨u, hu, e1⟩ := Z6 e
      simp only [dM] at e1
      refine ⟨u, e1.symm, fun U2 h1 => ?_⟩
      obtain ⟨q1, _⟩ := Z2j (h' := U2.h) (get' := fun x => some (ev U2 x)) (pk' := fun q x => evq q U2 x) hu (fun x hx => by rw [h1 x hx]) (fun q x hx => by simp only [evq, h1 x hx]) (fun b hb => by rw [Zpz rfl] at hb; simp at hb)
      simp only [step, AOp.yields, Xl]
      rw [q1]; rfl)
theorem Zap {g : G} (hl : g.op.light = true) (hact : g.active U) (e : Yp E tot g U = some U') :
 ∃ u, U' = ⟨put U.s g.op.dst u, U.h, U.n, U.base⟩ /\ ∀ U2, agG g U U2 -> Yp E tot g U2 = some ⟨put U2.s g.op.dst u, U2.h, U2.n, U2.base⟩ := by
 cases g with
 | o op =>
   obtain ⟨u, h1, h2⟩ := Zh6 (op := op) hl e
   exact ⟨u, h1, fun U2 q => h2 U2 (Z84 q)⟩
 | g s w op =>
   simp only [G.op] at hl
   have ht : Z4g U s w = some true := hact
   have j1 : ∀ U2, agG (.g s w op) U U2 -> Z4g U2 s w = some true := fun U2 q => by
    unfold Z4g at ht ⊢
    rw [q s (by simp [G.looks])]
    exact ht
   have e0 := e
   simp only [Yp, ht, Xl] at e
   cases hy : op.yields with
   | some d =>
     rw [hy] at e
     simp only [Wi] at e
     have hd := (Z2h hy).1
     split at e
     . rename_i u hu
       simp only [dM] at e
       refine ⟨.ifg true u, by rw [<- e]; simp only [G.op, hd], fun U2 q => ?_⟩
       obtain ⟨q1, _⟩ := Z2j (h' := U2.h) (get' := fun x => evp true U2 x) (pk' := fun q x => evq (true && q) U2 x) hu (fun x hx => by unfold evp; rw [Z84 (g := .g s w op) q x hx]) (fun r x hx => by unfold evq; rw [Z84 (g := .g s w op) q x hx]) (fun b hb => by rw [Zpz hl] at hb; simp at hb)
       simp only [Yp, j1 U2 q, Xl, hy, q1, Wi]
       simp only [G.op, hd]
     . cases e
   | none =>
     rw [hy] at e
     have hv : ∀ (O : St), Ya E O.h (fun x => evp true O x) (fun q x => evq (true && q) O x) op = none := fun O => by
      cases op <;> first | rfl | (simp [AOp.light] at hl; done) | (simp [AOp.yields] at hy)
     simp only [Xv, hv, cond_true] at e
     obtain ⟨U1, j2, e2⟩ := Z6 e
     obtain ⟨u, h1, h2⟩ := Zh6 (op := op) hl j2
     have j0 : ∀ O : St, back O op.dst ⟨put (strip O).s op.dst u, O.h, O.n, O.base⟩ = some ⟨put O.s op.dst u, O.h, O.n, O.base⟩ := fun O => by
      unfold back
      cases op.dst with
      | none => rfl
      | some d => simp [put, Z7]
     have he : U' = ⟨put U.s op.dst u, U.h, U.n, U.base⟩ := by
      rw [h1] at e2
      rw [show (strip U).h = U.h from rfl, show (strip U).n = U.n from rfl, show (strip U).base = U.base from rfl, j0 U] at e2
      simp only [dM] at e2
      exact e2.symm
     refine ⟨u, he, fun U2 q => ?_⟩
     have j3 := h2 (strip U2) (Zid (g := .g s w op) q)
     simp only [Yp, j1 U2 q, Xl, hy, Xv, hv, cond_true]
     rw [j3]
     exact j0 U2
theorem Ze9 {op : AOp} (h : op.quiet = true) : op.names = (0, 0) /\ op.mdOpds = [] /\ op.isCall = false /\ op.easy = true /\ (∃ d, op.yields = some d) := by
 cases op <;> simp [AOp.quiet] at h <;> exact ⟨rfl, rfl, rfl, rfl, _, rfl⟩
theorem Zaf {g : G} (hq : g.op.quiet = true) (hcl : g.op.opds.all Vo = true) (hact : g.active U) (e : Yp E tot g U = some U') :
 ∃ u, U' = ⟨put U.s g.op.dst u, U.h, U.n, U.base⟩ /\ ∀ U2, agG g U U2 -> (∀ x ∈ g.op.rdOpds, ∀ b ∈ nmX (ev (Zca g U) x), U2.h b = U.h b) -> Yp E tot g U2 = some ⟨put U2.s g.op.dst u, U2.h, U2.n, U2.base⟩ := by
 obtain ⟨_, _, j0, _, d, hy⟩ := Ze9 hq
 have hd := (Z2h hy).1
 cases g with
 | o op =>
   simp only [G.op] at hq hcl j0 hy hd
   have e1 : bnd (Ya E U.h (fun x => some (ev U x)) (fun q x => evq q U x) op) (fun a => some ({ U with s := put U.s d a } : St)) = some U' := by
    rw [<- e]
    cases op <;> simp [AOp.quiet] at hq <;> (simp only [AOp.yields, dM] at hy; subst hy; rfl)
   obtain ⟨u, hu, e2⟩ := Z6 e1
   simp only [dM] at e2
   refine ⟨u, by rw [<- e2]; simp only [G.op, hd], fun U2 q hk => ?_⟩
   obtain ⟨q1, _⟩ := Z2j (h' := U2.h) (get' := fun x => some (ev U2 x)) (pk' := fun q x => evq q U2 x) hu (fun x hx => by rw [Z84 (g := .o op) q x hx]) (fun r x hx => by unfold evq; rw [Z84 (g := .o op) q x hx]) (fun b hb => by
    obtain ⟨x, hx, j1⟩ := Zwm (O := U) (h := U.h) (get := fun x => some (ev U x)) rfl (fun x _ v hv => by simp only [dM] at hv; exact hv.symm) j0 b hb
    have hs := hk x hx b j1
    rw [hs]
    exact Same.refl (Z8j hu b hb))
   have : Yp E tot (.o op) U2 = bnd (Ya E U2.h (fun x => some (ev U2 x)) (fun q x => evq q U2 x) op) (fun a => some ({ U2 with s := put U2.s d a } : St)) := by
    cases op <;> simp [AOp.quiet] at hq <;> (simp only [AOp.yields, dM] at hy; subst hy; rfl)
   rw [this, q1]
   simp only [bnd, G.op, hd]
 | g s w op =>
   simp only [G.op] at hq hcl j0 hy hd
   have ht : Z4g U s w = some true := hact
   have j2 : ∀ U2, agG (.g s w op) U U2 -> Z4g U2 s w = some true := fun U2 q => by
    unfold Z4g at ht ⊢
    rw [q s (by simp [G.looks])]
    exact ht
   simp only [Yp, ht, Xl, hy, Wi] at e
   split at e
   . rename_i u hu
     simp only [dM] at e
     refine ⟨.ifg true u, by rw [<- e]; simp only [G.op, hd], fun U2 q hk => ?_⟩
     obtain ⟨q1, _⟩ := Z2j (h' := U2.h) (get' := fun x => evp true U2 x) (pk' := fun q x => evq (true && q) U2 x) hu (fun x hx => by unfold evp; rw [Z84 (g := .g s w op) q x hx]) (fun r x hx => by unfold evq; rw [Z84 (g := .g s w op) q x hx]) (fun b hb => by
      obtain ⟨x, hx, j1⟩ := Zwm (O := strip U) (h := U.h) rfl (fun x hx v hv => Zbp (cY.1 hcl x hx) hv) j0 b hb
      have hs := hk x hx b j1
      rw [hs]
      exact Same.refl (Z8j hu b hb))
     simp only [Yp, j2 U2 q, Xl, hy, q1, Wi]
     simp only [G.op, hd]
   . cases e
theorem Zs9 {bx : Bool} {d nm t : Nat} {ys : List (List A)} {sv : A} {U U' : St} (e : Zoy bx U d nm t ys sv = some U') :
 ∃ u, U' = ⟨put U.s (some d) u, U'.h, U'.n, U.base⟩ /\ ∀ U2 : St, U2.h = U.h -> U2.n = U.n -> U2.base = U.base -> Zoy bx U2 d nm t ys sv = some ⟨put U2.s (some d) u, U'.h, U'.n, U2.base⟩ := by
 unfold Zoy at e
 split at e
 . rename_i ty b len cap ex
   obtain ⟨k, hk, e1⟩ := Z6 e
   split at e1
   . rename_i hc
     split at e1
     . rename_i j0
       simp only [dM] at e1
       subst e1
       refine ⟨_, rfl, fun U2 h2 h3 h4 => ?_⟩
       simp only [Zoy, h2, h3, hk, bnd]
       rw [if_pos hc, if_pos j0]; rfl
     . rename_i j0
       split at e1
       . rename_i j1
         simp only [dM] at e1
         subst e1
         refine ⟨_, rfl, fun U2 h2 h3 h4 => ?_⟩
         simp only [Zoy, h2, h3, hk, bnd]
         rw [if_pos hc, if_neg j0, if_pos j1]; rfl
       . cases e1
   . cases e1
 . cases e
theorem Zli {op : AOp} (hh : op.easy = false) (e : step E tot op U = some U') : ∃ u, U' = ⟨put U.s op.dst u, U'.h, U'.n, U.base⟩ /\ ∀ U2, Y2j op U U2 -> U2.h = U.h -> U2.n = U.n -> U2.base = U.base -> step E tot op U2 = some ⟨put U2.s op.dst u, U'.h, U'.n, U2.base⟩ := by
 cases op with
 | stn nm ty p =>
   simp only [step] at e
   obtain ⟨j3, j0, e1⟩ := Z6 e
   simp only [dM] at e1
   subst e1
   refine ⟨.und, rfl, fun U2 h1 h2 h3 h4 => ?_⟩
   simp only [step, h1 p (by simp [AOp.opds]), h2, h3, h4, j0, bnd]; rfl
 | clr t zs x =>
   simp only [step] at e
   have e0 := e
   unfold Y3a at e
   split at e
   . rename_i ty b off len cap ex hx
     obtain ⟨k, hk, e1⟩ := Z6 e
     split at e1
     . rename_i hc
       simp only [dM] at e1
       subst e1
       refine ⟨.und, rfl, fun U2 h1 h2 h3 h4 => ?_⟩
       simp only [step, h1 x (by simp [AOp.opds]), hx, Y3a, h2, hk, bnd]
       rw [if_pos hc, h3, h4]; rfl
     . cases e1
   . cases e
 | dcall d f xs =>
   simp only [step, Znh] at e
   obtain ⟨r, hr, e1⟩ := Z6 e
   simp only [dM] at e1
   subst e1
   refine ⟨pack r.1, rfl, fun U2 h1 h2 h3 h4 => ?_⟩
   simp only [step, Znh, Z1r (U := U) (xs := xs) (fun y hy => h1 y (by simpa [AOp.opds] using hy)), h2, h3, h4, hr, bnd]; rfl
 | dcf d f xs =>
   simp only [step, Zfh] at e
   obtain ⟨r, hr, e1⟩ := Z6 e
   split at e1
   . rename_i hq
     simp only [dM] at e1
     subst e1
     refine ⟨pack r.1, rfl, fun U2 h1 h2 h3 h4 => ?_⟩
     simp only [step, Zfh, Z1r (U := U) (xs := xs) (fun y hy => h1 y (by simpa [AOp.opds] using hy)), h3, h2, hr, bnd]
     rw [if_pos (by first | exact hq | (rw [h4]; exact hq) | (rw [h4, h2]; exact hq)), h4]; rfl
   . cases e1
 | apb d nm t s x =>
   simp only [step] at e
   obtain ⟨ys, j1, e1⟩ := Z6 e
   obtain ⟨u, hu⟩ := Zs9 e1
   refine ⟨u, hu.1, fun U2 h1 h2 h3 h4 => ?_⟩
   simp only [step, h1 s (by simp [AOp.opds]), h1 x (by simp [AOp.opds]), h2, j1, bnd]
   exact hu.2 U2 h2 h3 h4
 | callx d nm w f xs =>
   simp only [step, Z5d] at e
   obtain ⟨p, hp, e1⟩ := Z6 e
   obtain ⟨rs, j2, e2⟩ := Z6 e1
   split at e2
   . cases e2
   . rename_i hw
     simp only [dM] at e2
     subst e2
     refine ⟨_, rfl, fun U2 h1 h2 h3 h4 => ?_⟩
     simp only [step, Z5d, Z1r (U := U) (xs := xs) (fun y hy => h1 y (by simpa [AOp.opds] using hy)), h2, h3, h4, hp, j2, bnd]
     rw [if_neg hw]; rfl
 | dcs d f xs =>
   simp only [step, Zo4] at e
   obtain ⟨r, hr, e1⟩ := Z6 e
   obtain ⟨p, hp, e2⟩ := Z6 e1
   simp only [dM] at e2
   subst e2
   refine ⟨pack p.1, rfl, fun U2 h1 h2 h3 h4 => ?_⟩
   simp only [step, Zo4, Z1r (U := U) (xs := xs) (fun y hy => h1 y (by simpa [AOp.opds] using hy)), h2, h3, h4, hr, hp, bnd]; rfl
 | dcallv d y xs =>
   simp only [step, Znh] at e
   obtain ⟨p, hp, e0⟩ := Z6 e
   obtain ⟨r, hr, e1⟩ := Z6 e0
   simp only [dM] at e1
   subst e1
   refine ⟨pack r.1, rfl, fun U2 h1 h2 h3 h4 => ?_⟩
   simp only [step, Znh, Z1r (U := U) (xs := xs) (fun z hz => h1 z (by simp [AOp.opds, hz])), h1 y (by simp [AOp.opds]), h2, h3, h4, hp, hr, bnd]; rfl
 | no why => simp [step, AOp.yields, bnd] at e
 | _ => simp [AOp.easy] at hh
theorem Z2e {g : G} (hcl : g.op.opds.all Vo = true) (hact : g.active U) (e : Yp E tot g U = some U') :
 ∃ u, U' = ⟨put U.s g.op.dst u, U'.h, U'.n, U.base⟩ /\ ∀ U2, agG g U U2 -> U2.h = U.h -> U2.n = U.n -> U2.base = U.base -> Yp E tot g U2 = some ⟨put U2.s g.op.dst u, U'.h, U'.n, U2.base⟩ := by
 cases heasy : g.op.easy with
 | true =>
   obtain ⟨u, F, iv, Md, Rd, h1, h2, _⟩ := Z97 heasy hcl hact e
   refine ⟨u, by rw [h1], fun U2 q1 q2 q3 q4 => ?_⟩
   rw [h2.move U2 q1 q3 q4 (fun b hb => by rw [q2]; exact Same.refl (h2.has b (.inl hb))) (fun b _ => by rw [q2]), h1, q2, q3]
 | false =>
   cases g with
   | o op =>
     obtain ⟨u, h1, h2⟩ := Zli (op := op) heasy e
     exact ⟨u, h1, fun U2 q => h2 U2 (Z84 q)⟩
   | g s w op =>
     simp only [G.op] at heasy hcl
     have ht : Z4g U s w = some true := hact
     have j3 : ∀ U2, agG (.g s w op) U U2 -> Z4g U2 s w = some true := fun U2 q => by
      unfold Z4g at ht ⊢
      rw [q s (by simp [G.looks])]
      exact ht
     have hy : op.yields = none := by cases op <;> first | rfl | (simp [AOp.easy] at heasy)
     have hv : ∀ (O : St), Ya E O.h (fun x => evp true O x) (fun q x => evq (true && q) O x) op = none := fun O => by
      cases op <;> first | rfl | (simp [AOp.easy] at heasy)
     simp only [Yp, ht, Xl, hy, Xv, hv, cond_true] at e
     obtain ⟨U1, j1, e2⟩ := Z6 e
     obtain ⟨u, h1, h2⟩ := Zli (op := op) heasy j1
     have j0 : ∀ (O : St) (hh : Hp) (m : Nat), back O op.dst ⟨put (strip O).s op.dst u, hh, m, O.base⟩ = some ⟨put O.s op.dst u, hh, m, O.base⟩ := fun O hh m => by
      unfold back
      cases op.dst with
      | none => rfl
      | some d => simp [put, Z7]
     have he : U' = ⟨put U.s op.dst u, U1.h, U1.n, U.base⟩ := by
      rw [h1] at e2
      rw [show (strip U).base = U.base from rfl, j0 U] at e2
      simp only [dM] at e2
      exact e2.symm
     refine ⟨u, by rw [he]; rfl, fun U2 q1 q2 q3 q4 => ?_⟩
     have j2 := h2 (strip U2) (Zid (g := .g s w op) q1) q2 q3 q4
     simp only [Yp, j3 U2 q1, Xl, hy, Xv, hv, cond_true]
     rw [j2, he]
     exact j0 U2 _ _
def Z2a (x y : G) : Bool :=
 (match x.op.dst with
  | some d => !y.looks.contains d && y.op.dst != some d
  | none => true) &&
 (match y.op.dst with
  | some d => !x.looks.contains d
  | none => true)
theorem Vh {x y : G} (e : Z2a x y = true) : (∀ d, x.op.dst = some d -> d ∉ y.looks) /\ (∀ d, x.op.dst = some d -> y.op.dst ≠ some d) /\ (∀ d, y.op.dst = some d -> d ∉ x.looks) := by
 refine ⟨fun d hd => ?_, fun d hd => ?_, fun d hd => ?_⟩ <;> simp [Z2a, hd] at e
 . exact e.1.1
 . exact e.1.2
 . exact e.2
theorem Zm1 {s : Nat -> A} {d : Option Nat} {u : A} {t : Nat} (h : ∀ k, d = some k -> k ≠ t) : put s d u t = s t := by
 cases d with
 | none => rfl
 | some k => simp only [put, Z7]; rw [if_neg (fun q => h k rfl q.symm)]
theorem Z5w {s : Nat -> A} {d d' : Option Nat} {u u' : A} (h : ∀ k, d = some k -> d' ≠ some k) : put (put s d u) d' u' = put (put s d' u') d u := by
 cases d with
 | none => rfl
 | some k =>
   cases d' with
   | none => rfl
   | some k' =>
     have j0 : k ≠ k' := fun q => h k rfl (by rw [q])
     funext t
     simp only [put, Z7]
     by_cases h1 : t = k <;> by_cases h2 : t = k'
     . exact absurd (h1.symm.trans h2) j0
     . simp [h1, j0]
     . simp [h2, j0.symm]
     . simp [h1, h2]
structure Kn (K : Nat -> Prop) (gi : G) (U : St) : Prop where
 ops : ∀ x ∈ gi.op.opds, ∀ b, b ∈ nmX (ev (Zca gi U) x) \/ b ∈ nmP (ev (Zca gi U) x) -> K b
 rows : gi.op.isCall = true -> ∀ c, K c -> ∀ k, U.h c = some k -> ∀ row ∈ k.rows, ∀ b ∈ Zr row, K b
 new : ∀ b, X1 (U.n + gi.op.names.1) gi.op.names.2 b -> U.h b = none
structure Pair (K : Nat -> Prop) (gj gi : G) (U : St) : Prop where
 slots : Z2a gj gi = true
 spanK : ∀ b, X1 (U.n + gj.op.names.1) gj.op.names.2 b -> ¬ K b
 spans : ∀ b, X1 (U.n + gj.op.names.1) gj.op.names.2 b -> ¬ X1 (U.n + gi.op.names.1) gi.op.names.2 b
 one : gj.op.mdOpds = [] \/ gi.op.mdOpds = []
 callJ : gi.op.mdOpds = [] \/ gj.op.isCall = false
 callI : gj.op.mdOpds = [] \/ gi.op.isCall = false
 sepJ : ∀ x ∈ gj.op.rdOpds, ∀ y ∈ gi.op.mdOpds, ∀ b, b ∈ nmX (ev (Zca gj U) x) -> b ∈ Yk (ev (Zca gi U) y) -> False
 sepI : ∀ x ∈ gi.op.rdOpds, ∀ y ∈ gj.op.mdOpds, ∀ b, b ∈ nmX (ev (Zca gi U) x) -> b ∈ Yk (ev (Zca gj U) y) -> False
theorem Z04 {op : AOp} : ∀ x ∈ op.rdOpds, x ∈ op.opds := by
 intro x hx
 cases op <;> simp [AOp.rdOpds] at hx <;> simp [AOp.opds, hx]
theorem Z2f {op : AOp} : ∀ x ∈ op.mdOpds, x ∈ op.opds := by
 intro x hx
 cases op <;> simp [AOp.mdOpds] at hx <;> simp [AOp.opds, hx]
theorem Zqw {g : G} {U2 : St} (q : agG g U U2) : ∀ x ∈ g.op.opds, ev (Zca g U2) x = ev (Zca g U) x := by
 cases g with
 | o op => exact Z84 q
 | g s w op => exact Zid q
theorem Y6d (g : G) (U : St) : (Zca g U).h = U.h /\ (Zca g U).n = U.n := by cases g <;> exact ⟨rfl, rfl⟩
theorem Vv {g : G} {U2 : St} (q : agG g U U2) (h : g.active U) : g.active U2 := by
 cases g with
 | o op => trivial
 | g s w op =>
   show Z4g U2 s w = some true
   have h : Z4g U s w = some true := h
   unfold Z4g at h ⊢
   rw [q s (by simp [G.looks])]
   exact h
theorem Z1n {gi : G} {d : Option Nat} {u : A} {hh : Hp} {n b : Nat} (hd : ∀ k, d = some k -> k ∉ gi.looks) : agG gi U ⟨put U.s d u, hh, n, b⟩ := fun t ht => by
 show put U.s d u t = U.s t
 exact Zm1 (fun k hk q => hd k hk (q ▸ ht))
theorem Z1v {g : G} (q : agG g U U2) : agG g U2 U := fun t ht => (q t ht).symm
theorem Zsu {op : AOp} (h : op.light = true) : op.names.2 = 0 /\ op.rdOpds = [] /\ op.mdOpds = [] /\ op.isCall = false /\ op.easy = true := by
 cases op <;> simp [AOp.light] at h <;> exact ⟨rfl, rfl, rfl, rfl, rfl⟩
theorem Zwa {K : Nat -> Prop} {gi gj : G} (ei : gi.op.easy = true) (ej : gj.op.easy = true) (ci : gi.op.opds.all Vo = true) (cj : gj.op.opds.all Vo = true) (kn : Kn K gi U) (pr : Pair K gj gi U)
 (aj : gj.active U) (hj : Yp E tot gj U = some U1) (ai : gi.active U1) (hi : Yp E tot gi U1 = some U2) :
 ∃ U', gi.active U /\ Yp E tot gi U = some U' /\ gj.active U' /\ Yp E tot gj U' = some U2 /\ U1.n = U.n /\ (∀ c k, K c -> gj.op.mdOpds = [] -> U1.h c = some k -> ∃ k', U.h c = some k' /\ k'.rows = k.rows) /\ (∀ b, X1 (U.n + gi.op.names.1) gi.op.names.2 b -> U1.h b = none) := by
 obtain ⟨s1, s2, s3⟩ := Vh pr.slots
 obtain ⟨uj, Fj, ji, jb, jr, rfl, Lj, Xj⟩ := Z97 ej cj aj hj
 have jc : agG gi U ⟨put U.s gj.op.dst uj, Fj U.h, U.n, U.base⟩ := Z1n s1
 obtain ⟨ui, Fi, jd, j9, jg, rfl, Li, Xi⟩ := Z97 ei ci ai hi
 have j6 := Zqw jc
 obtain ⟨th, tn⟩ := Y6d gi ⟨put U.s gj.op.dst uj, Fj U.h, U.n, U.base⟩
 obtain ⟨ju, jq⟩ := Y6d gj U
 have ja : ∀ b, ji b -> X1 (U.n + gj.op.names.1) gj.op.names.2 b := fun b hb => by have := Xj.ivs b hb; rwa [jq] at this
 have jh : ∀ b, jd b -> X1 (U.n + gi.op.names.1) gi.op.names.2 b := fun b hb => by have := Xi.ivs b hb; rwa [tn] at this
 have known_rows : ∀ c k, K c -> (∀ b, ¬ jb b) -> Fj U.h c = some k -> ∃ k', U.h c = some k' /\ k'.rows = k.rows := by
  intro c k hc hm hk
  rcases Lj.cls c with h | h | h | ⟨h1, h2⟩
  . exact absurd hc (pr.spanK c (ja c h))
  . exact absurd h (hm c)
  . rw [h] at hk; exact ⟨k, hk, rfl⟩
  . rw [h2] at hk
    cases hs : U.h c with
    | none => rw [hs] at hk; cases hk
    | some k0 => rw [hs] at hk; simp only [Y61, fG, dM] at hk; subst hk; exact ⟨k0, rfl, rfl⟩
 have j0 : gj.op.mdOpds = [] -> ∀ b, ¬ jb b := fun h b hb => by
  obtain ⟨y, hy, _⟩ := Xj.mdx b hb
  rw [h] at hy; simp at hy
 have j3 : gi.op.mdOpds = [] -> ∀ b, ¬ j9 b := fun h b hb => by
  obtain ⟨y, hy, _⟩ := Xi.mdx b hb
  rw [h] at hy; simp at hy
 have j8 : ∀ b, b ∈ jg \/ j9 b -> K b := by
  intro b hb
  rcases hb with hb | hb
  . rcases Xi.rdx b hb with ⟨hc, x, hx, hr⟩ | ⟨x, hx, hr⟩
    . rw [j6 x hx] at hr
      obtain ⟨c, jp, hr⟩ := hr
      have jt : gj.op.mdOpds = [] := by
       rcases pr.callI with h | h
       . exact h
       . rw [hc] at h; cases h
      have cl : ∀ {c d : Nat}, Rt (Zca gi ⟨put U.s gj.op.dst uj, Fj U.h, U.n, U.base⟩).h c d -> K c -> K d := by
       intro c d t
       induction t with
       | refl => exact id
       | step hk hrow hb' _ ih =>
         intro jf
         rw [th] at hk
         obtain ⟨k', jo, jl⟩ := known_rows _ _ jf (j0 jt) hk
         exact ih (kn.rows hc _ jf k' jo _ (by rw [jl]; exact hrow) _ hb')
      exact cl hr (kn.ops x hx c jp)
    . rw [j6 x (Z04 x hx)] at hr
      exact kn.ops x (Z04 x hx) b (.inl hr)
  . obtain ⟨y, hy, hr⟩ := Xi.mdx b hb
    rw [j6 y (Z2f y hy)] at hr
    exact kn.ops y (Z2f y hy) b (.inl (by simp [nmX, hr]))
 have mdJ_rdI : ∀ b, jb b -> b ∈ jg -> False := fun b h1 h2 => by
  obtain ⟨y, hy, hr⟩ := Xj.mdx b h1
  have hm : gj.op.mdOpds ≠ [] := fun q => by rw [q] at hy; simp at hy
  have js : gi.op.isCall = false := pr.callI.resolve_left hm
  rcases Xi.rdx b h2 with ⟨hc, _⟩ | ⟨x, hx, j7⟩
  . rw [js] at hc; cases hc
  . rw [j6 x (Z04 x hx)] at j7
    exact pr.sepI x hx y hy b j7 hr
 have mdI_rdJ : ∀ b, j9 b -> b ∈ jr -> False := fun b h1 h2 => by
  obtain ⟨y, hy, hr⟩ := Xi.mdx b h1
  rw [j6 y (Z2f y hy)] at hr
  have hm : gi.op.mdOpds ≠ [] := fun q => by rw [q] at hy; simp at hy
  have jn : gj.op.isCall = false := pr.callJ.resolve_left hm
  rcases Xj.rdx b h2 with ⟨hc, _⟩ | ⟨x, hx, j7⟩
  . rw [jn] at hc; cases hc
  . exact pr.sepJ x hx y hy b j7 hr
 have md_md : ∀ b, j9 b -> jb b -> False := fun b h1 h2 => by
  rcases pr.one with h | h
  . exact j0 h b h2
  . exact j3 h b h1
 have j2 : ∀ b, jd b -> U.h b = none := fun b hb => kn.new b (jh b hb)
 have j4 : ∀ b, ji b -> ¬ K b := fun b hb => pr.spanK b (ja b hb)
 have jj := Li.move U (Z1v jc) rfl rfl
  (fun b hb => by
   show Same (Fj U.h b) (U.h b)
   have j1 : Fj U.h b ≠ none := Li.has b (.inl hb)
   rcases Lj.cls b with h | h | h | ⟨h1, h2⟩
   . exact absurd (j8 b (.inl hb)) (j4 b h)
   . exact (mdJ_rdI b h hb).elim
   . rw [h] at j1 ⊢; exact Same.refl j1
   . rw [h2] at j1 ⊢
     exact (Zlf (fun q => j1 (by rw [q]; rfl))).symm)
  (fun b hb => by
   show U.h b = Fj U.h b
   rcases Lj.cls b with h | h | h | ⟨h1, h2⟩
   . exact absurd (j8 b (.inr hb)) (j4 b h)
   . exact (md_md b hb h).elim
   . rw [h]
   . exact (mdI_rdJ b hb h1).elim)
 have je : agG gj U ⟨put U.s gi.op.dst ui, Fi U.h, U.n, U.base⟩ := Z1n s3
 have jm := Lj.move ⟨put U.s gi.op.dst ui, Fi U.h, U.n, U.base⟩ je rfl rfl
  (fun b hb => by
   show Same (U.h b) (Fi U.h b)
   have j1 := Lj.has b (.inl hb)
   rcases Li.cls b with h | h | h | ⟨h1, h2⟩
   . exact absurd (j2 b h) j1
   . exact (mdI_rdJ b h hb).elim
   . rw [h]; exact Same.refl j1
   . rw [h2]; exact Zlf j1)
  (fun b hb => by
   show Fi U.h b = U.h b
   have j1 := Lj.has b (.inr hb)
   rcases Li.cls b with h | h | h | ⟨h1, h2⟩
   . exact absurd (j2 b h) j1
   . exact (md_md b h hb).elim
   . rw [h]
   . exact (mdJ_rdI b hb h1).elim)
 refine ⟨_, Vv (Z1v jc) ai, jj, Vv je aj, ?_, rfl, fun c k hc hm hk => known_rows c k hc (j0 hm) hk, fun b hb => ?_⟩
 . rw [jm]
   have hs : put (put U.s gi.op.dst ui) gj.op.dst uj = put (put U.s gj.op.dst uj) gi.op.dst ui := (Z5w s2).symm
   have j5 : Fj (Fi U.h) = Fi (Fj U.h) := by
    funext b
    rcases Li.cls b with h | h | h | ⟨h1, h2⟩
    . rcases Lj.cls b with g | g | g | ⟨g1, g2⟩
      . exact absurd (jh b h) (pr.spans b (ja b g))
      . exact absurd (j2 b h) (Lj.has b (.inr g))
      . rw [g]; exact Li.pw _ _ b (g U.h).symm
      . exact absurd (j2 b h) (Lj.has b (.inl g1))
    . rcases Lj.cls b with g | g | g | ⟨g1, g2⟩
      . exact absurd (j8 b (.inr h)) (j4 b g)
      . exact (md_md b h g).elim
      . rw [g]; exact Li.pw _ _ b (g U.h).symm
      . exact (mdI_rdJ b h g1).elim
    . rw [h]; exact Lj.pw _ _ b (h U.h)
    . rcases Lj.cls b with g | g | g | ⟨g1, g2⟩
      . exact absurd (j8 b (.inl h1)) (j4 b g)
      . exact (mdJ_rdI b g h1).elim
      . rw [g]; exact Li.pw _ _ b (g U.h).symm
      . rw [g2, h2, h2, g2]
   show some (St.mk (put (put U.s gi.op.dst ui) gj.op.dst uj) (Fj (Fi U.h)) U.n U.base) = _
   rw [hs, j5]
 . show Fj U.h b = none
   have hn := kn.new b hb
   rcases Lj.cls b with g | g | g | ⟨g1, g2⟩
   . exact absurd hb (pr.spans b (ja b g))
   . exact absurd hn (Lj.has b (.inr g))
   . rw [g]; exact hn
   . exact absurd hn (Lj.has b (.inl g1))
end Go.Vm
namespace Go.Vm
open Go.RowKit
variable {h : Hp} {U U' U1 U2 Uf : St} {E : Env} {tot : Nat}
theorem Does.base {g : G} (d : Does E tot g U U') (cl : g.op.opds.all Vo = true) : (∃ u hh n, U' = ⟨put U.s g.op.dst u, hh, n, U.base⟩) /\ (g.op.easy = true -> U'.n = U.n) := by
 cases d with
 | run ha e =>
   obtain ⟨u, h1, _⟩ := Z2e cl ha e
   refine ⟨⟨u, _, _, h1⟩, fun he => ?_⟩
   obtain ⟨u, F, iv, Md, Rd, h1, _⟩ := Z97 he cl ha e
   rw [h1]
 | skip ht hu => exact ⟨⟨_, _, _, rfl⟩, fun _ => rfl⟩
theorem Ziv {s : Nat} {w : Bool} {op : AOp} {b : Bool} (q : agG (.g s w op) U U2) (h : Z4g U s w = some b) : Z4g U2 s w = some b := by
 unfold Z4g at h ⊢
 rw [q s (by simp [G.looks])]
 exact h
def Ydk (N : List Nat) (K : Nat -> Prop) (gj gi : G) (U : St) : Prop := gi.op.light = true \/ gj.op.light = true \/ (gi.op.easy = true /\ gj.op.easy = true /\ Kn K gi U /\ Pair K gj gi U) \/
 (gi.op.quiet = true /\ gj.op.isDc = true /\ ∀ x ∈ gi.op.rdOpds, ∀ b ∈ nmX (ev (Zca gi U) x), b ∈ N) \/ (gj.op.quiet = true /\ gi.op.isDc = true /\ ∀ x ∈ gj.op.rdOpds, ∀ b ∈ nmX (ev (Zca gj U) x), b ∈ N)
structure EnvKeep (E : Env) (N : List Nat) : Prop where
 keep : ∀ f as h n r, E.dc f as h n = some r -> Z28 N h r.2.1
 mono : ∀ f as h n r, E.dc f as h n = some r -> n <= r.2.2
theorem Zcd {op : AOp} (h : op.isDc = true) : op.easy = false /\ op.names = (0, 0) /\ op.isCall = false /\ op.yields = none := by
 cases op <;> simp [AOp.isDc] at h <;> exact ⟨rfl, rfl, rfl, rfl⟩
theorem Zl3 {N : List Nat} (hN : EnvKeep E N) {op : AOp} (h : op.isDc = true) (e : step E tot op U = some U') : Z28 N U.h U'.h /\ U.n + tot <= U'.n := by
 cases op with
 | dcall d f xs =>
   simp only [step, Znh] at e
   obtain ⟨r, hr, e1⟩ := Z6 e
   simp only [dM] at e1
   subst e1
   exact ⟨hN.keep _ _ _ _ _ hr, hN.mono _ _ _ _ _ hr⟩
 | dcallv d y xs =>
   simp only [step, Znh] at e
   obtain ⟨p, hp, e0⟩ := Z6 e
   obtain ⟨r, hr, e1⟩ := Z6 e0
   simp only [dM] at e1
   subst e1
   exact ⟨hN.keep _ _ _ _ _ hr, hN.mono _ _ _ _ _ hr⟩
 | _ => simp [AOp.isDc] at h
theorem Zck {N : List Nat} (hN : EnvKeep E N) {g : G} (h : g.op.isDc = true) (ha : g.active U) (e : Yp E tot g U = some U') : Z28 N U.h U'.h /\ U.n + tot <= U'.n := by
 cases g with
 | o op => exact Zl3 hN h e
 | g s w op =>
   simp only [G.op] at h
   have ht : Z4g U s w = some true := ha
   have hv : Ya E U.h (fun x => evp true U x) (fun q x => evq (true && q) U x) op = none := by
    cases op <;> first | rfl | (simp [AOp.isDc] at h)
   simp only [Yp, ht, Xl, (Zcd h).2.2.2, Xv, hv, cond_true] at e
   obtain ⟨U1, j0, e2⟩ := Z6 e
   unfold back at e2
   simp only [dM] at e2
   subst e2
   have q := Zl3 (U := strip U) hN h j0
   exact q
theorem Does.kept {N : List Nat} (hN : EnvKeep E N) {g : G} (h : g.op.isDc = true) (d : Does E tot g U U') : Z28 N U.h U'.h /\ (U'.n = U.n \/ U.n + tot <= U'.n) := by
 cases d with
 | run ha e => obtain ⟨q1, q2⟩ := Zck hN h ha e; exact ⟨q1, .inr q2⟩
 | skip ht hu => exact ⟨fun _ _ => rfl, .inl rfl⟩
theorem Ydu {N : List Nat} (hN : EnvKeep E N) {K : Nat -> Prop} {gi gj : G} (ci : gi.op.opds.all Vo = true) (cj : gj.op.opds.all Vo = true) (sl : Z2a gj gi = true) (ft : Ydk N K gj gi U) (dj : Does E tot gj U U1) (di : Does E tot gi U1 U2) :
 ∃ U', Does E tot gi U U' /\ Does E tot gj U' U2 := by
 obtain ⟨s1, s2, s3⟩ := Vh sl
 have j3 : ∀ {s w op u}, gi = .g s w op -> Z4g U1 s w = some false -> Ydh u -> U2 = ⟨put U1.s op.dst u, U1.h, U1.n, U1.base⟩ -> ∃ U', Does E tot gi U U' /\ Does E tot gj U' U2 := by
  intro s w op u hg ht hu h2
  subst hg
  subst h2
  cases dj with
  | run ha e =>
    obtain ⟨uj, h1, h2⟩ := Z2e cj ha e
    have j0 : agG (.g s w op) U U1 := by rw [h1]; exact Z1n s1
    have j1 : agG gj U ⟨put U.s op.dst u, U.h, U.n, U.base⟩ := Z1n s3
    refine ⟨_, .skip (Ziv (Z1v j0) ht) hu, .run (Vv j1 ha) ?_⟩
    rw [h2 _ j1 rfl rfl rfl]
    rw [h1]
    show some (St.mk (put (put U.s op.dst u) gj.op.dst uj) _ _ _) = some (St.mk (put (put U.s gj.op.dst uj) op.dst u) _ _ _)
    rw [Z5w (d := gj.op.dst) (d' := op.dst) s2]
  | @skip s' w' op' _ uj ht' hu' =>
    have j0 : agG (.g s w op) U ⟨put U.s op'.dst uj, U.h, U.n, U.base⟩ := Z1n s1
    have j1 : agG (.g s' w' op') U ⟨put U.s op.dst u, U.h, U.n, U.base⟩ := Z1n s3
    refine ⟨_, .skip (Ziv (Z1v j0) ht) hu, ?_⟩
    have := Does.skip (E := E) (tot := tot) (op := op') (Ziv j1 ht') hu'
    show Does E tot _ _ (St.mk (put (put U.s op'.dst uj) op.dst u) _ _ _)
    rw [Z5w (d := op'.dst) (d' := op.dst) s2]
    exact this
 cases di with
 | skip ht hu => exact j3 rfl ht hu rfl
 | run ai hi =>
   cases dj with
   | @skip s' w' op' _ uj ht' hu' =>
     have j0 : agG gi U ⟨put U.s op'.dst uj, U.h, U.n, U.base⟩ := Z1n s1
     obtain ⟨u, h1, h2⟩ := Z2e ci ai hi
     have j2 := h2 U (Z1v j0) rfl rfl rfl
     have j1 : agG (.g s' w' op') U ⟨put U.s gi.op.dst u, U2.h, U2.n, U.base⟩ := Z1n s3
     refine ⟨_, .run (Vv (Z1v j0) ai) j2, ?_⟩
     have := Does.skip (E := E) (tot := tot) (op := op') (Ziv j1 ht') hu'
     rw [h1]
     show Does E tot _ _ (St.mk (put (put U.s op'.dst uj) gi.op.dst u) _ _ _)
     rw [Z5w (d := op'.dst) s2]
     exact this
   | run aj hj =>
     rcases ft with hl | hl | ⟨ei, ej, kn, pr⟩ | ⟨qi, dcj, hn⟩ | ⟨qj, dci, hn⟩
     . -- i touches no row
       obtain ⟨uj, h1, h2⟩ := Z2e cj aj hj
       have j0 : agG gi U U1 := by rw [h1]; exact Z1n s1
       obtain ⟨ui, h3, h4⟩ := Zap hl ai hi
       have j2 := h4 U (Z1v j0)
       have j1 : agG gj U ⟨put U.s gi.op.dst ui, U.h, U.n, U.base⟩ := Z1n s3
       refine ⟨_, .run (Vv (Z1v j0) ai) j2, .run (Vv j1 aj) ?_⟩
       rw [h2 _ j1 rfl rfl rfl, h3, h1]
       show some (St.mk (put (put U.s gi.op.dst ui) gj.op.dst uj) _ _ _) = some (St.mk (put (put U.s gj.op.dst uj) gi.op.dst ui) _ _ _)
       rw [Z5w (d := gj.op.dst) s2]
     . -- j touches no row
       obtain ⟨uj, h1, h2⟩ := Zap hl aj hj
       have j0 : agG gi U U1 := by rw [h1]; exact Z1n s1
       obtain ⟨ui, h3, h4⟩ := Z2e ci ai hi
       have j2 := h4 U (Z1v j0) (by rw [h1]) (by rw [h1]) (by rw [h1])
       have j1 : agG gj U ⟨put U.s gi.op.dst ui, U2.h, U2.n, U.base⟩ := Z1n s3
       refine ⟨_, .run (Vv (Z1v j0) ai) j2, .run (Vv j1 aj) ?_⟩
       rw [h2 _ j1, h3, h1]
       show some (St.mk (put (put U.s gi.op.dst ui) gj.op.dst uj) _ _ _) = some (St.mk (put (put U.s gj.op.dst uj) gi.op.dst ui) _ _ _)
       rw [Z5w (d := gj.op.dst) s2]
     . obtain ⟨U', q1, q2, q3, q4, _⟩ := Zwa ei ej ci cj kn pr aj hj ai hi
       exact ⟨U', .run q1 q2, .run q3 q4⟩
     . -- i reads what j Zd9
       obtain ⟨uj, h1, h2⟩ := Z2e cj aj hj
       have hk := (Zck hN dcj aj hj).1
       have j0 : agG gi U U1 := by rw [h1]; exact Z1n s1
       obtain ⟨ui, h3, h4⟩ := Zaf qi ci ai hi
       have j2 := h4 U (Z1v j0) (fun x hx b hb => by
        rw [Zqw j0 x (Z04 x hx)] at hb
        exact hk b (hn x hx b hb))
       have j1 : agG gj U ⟨put U.s gi.op.dst ui, U.h, U.n, U.base⟩ := Z1n s3
       refine ⟨_, .run (Vv (Z1v j0) ai) j2, .run (Vv j1 aj) ?_⟩
       rw [h2 _ j1 rfl rfl rfl, h3, h1]
       show some (St.mk (put (put U.s gi.op.dst ui) gj.op.dst uj) _ _ _) = some (St.mk (put (put U.s gj.op.dst uj) gi.op.dst ui) _ _ _)
       rw [Z5w (d := gj.op.dst) s2]
     . -- j reads what i Zd9
       obtain ⟨uj, h1, h2⟩ := Zaf qj cj aj hj
       have j0 : agG gi U U1 := by rw [h1]; exact Z1n s1
       obtain ⟨ui, h3, h4⟩ := Z2e ci ai hi
       have hk := (Zck hN dci ai hi).1
       have j2 := h4 U (Z1v j0) (by rw [h1]) (by rw [h1]) (by rw [h1])
       have j1 : agG gj U ⟨put U.s gi.op.dst ui, U2.h, U2.n, U.base⟩ := Z1n s3
       refine ⟨_, .run (Vv (Z1v j0) ai) j2, .run (Vv j1 aj) ?_⟩
       rw [h2 _ j1 (fun x hx b hb => by
        have := hk b (hn x hx b hb)
        rw [h1] at this
        exact this.symm), h3, h1]
       show some (St.mk (put (put U.s gi.op.dst ui) gj.op.dst uj) _ _ _) = some (St.mk (put (put U.s gj.op.dst uj) gi.op.dst ui) _ _ _)
       rw [Z5w (d := gj.op.dst) s2]
theorem Kn.still {K : Nat -> Prop} {gi gj : G} (cj : gj.op.opds.all Vo = true) (sl : Z2a gj gi = true) (kn : Kn K gi U) (dj : Does E tot gj U U1) (h1 : U1.h = U.h \/ (gi.op.names = (0, 0) /\ gi.op.isCall = false)) (h2 : U1.n = U.n \/ gi.op.names = (0, 0)) : Kn K gi U1 := by
 obtain ⟨s1, s2, s3⟩ := Vh sl
 obtain ⟨⟨u, hh, n, e1⟩, _⟩ := dj.base cj
 have j2 : agG gi U U1 := by rw [e1]; exact Z1n s1
 have j3 := Zqw j2
 refine ⟨fun x hx b hb => ?_, fun hc c hk k j1 row j0 b hb => ?_, fun b hb => ?_⟩
 . rw [j3 x hx] at hb; exact kn.ops x hx b hb
 . rcases h1 with h | h
   . rw [h] at j1; exact kn.rows hc c hk k j1 row j0 b hb
   . rw [h.2] at hc; cases hc
 . rcases h2 with h2 | h2
   . rcases h1 with h | h
     . rw [h2] at hb; rw [h]; exact kn.new b hb
     . rw [h.1] at hb; simp only [X1] at hb; omega
   . rw [h2] at hb; simp only [X1] at hb; omega
theorem Kn.step {K : Nat -> Prop} {gi gj : G} (ci : gi.op.opds.all Vo = true) (cj : gj.op.opds.all Vo = true) (sl : Z2a gj gi = true) (kn : Kn K gi U) (dj : Does E tot gj U U1) (ej : gj.op.light = true \/ (gj.op.easy = true /\ Pair K gj gi U)) : Kn K gi U1 /\ U1.n = U.n := by
 obtain ⟨s1, s2, s3⟩ := Vh sl
 have he : gj.op.easy = true := by
  rcases ej with h | h
  . exact (Zsu h).2.2.2.2
  . exact h.1
 obtain ⟨⟨u, hh, n, h1⟩, h2⟩ := dj.base cj
 have hn := h2 he
 have j5 : agG gi U U1 := by rw [h1]; exact Z1n s1
 have ja := Zqw j5
 have rows : (∀ c k, K c -> gi.op.isCall = true -> U1.h c = some k -> ∃ k', U.h c = some k' /\ k'.rows = k.rows) /\ (∀ b, X1 (U.n + gi.op.names.1) gi.op.names.2 b -> U1.h b = none) := by
  cases dj with
  | skip ht hu => exact ⟨fun c k _ _ hk => ⟨k, hk, rfl⟩, kn.new⟩
  | run aj hj =>
    rcases ej with hl | ⟨j8, pr⟩
    . obtain ⟨uj, h1, _⟩ := Zap hl aj hj
      rw [h1]
      exact ⟨fun c k _ _ hk => ⟨k, hk, rfl⟩, kn.new⟩
    . obtain ⟨uj, Fj, j7, jc, jd, h1, Lj, Xj⟩ := Z97 j8 cj aj hj
      obtain ⟨je, j9⟩ := Y6d gj U
      have j3 : ∀ b, j7 b -> X1 (U.n + gj.op.names.1) gj.op.names.2 b := fun b hb => by have := Xj.ivs b hb; rwa [j9] at this
      rw [h1]
      refine ⟨fun c k hc j0 hk => ?_, fun b hb => ?_⟩
      . have j6 : gj.op.mdOpds = [] := by
         rcases pr.callI with h | h
         . exact h
         . rw [j0] at h; cases h
        simp only at hk
        rcases Lj.cls c with h | h | h | ⟨h1, h2⟩
        . exact absurd hc (pr.spanK c (j3 c h))
        . obtain ⟨y, hy, _⟩ := Xj.mdx c h
          rw [j6] at hy; simp at hy
        . rw [h] at hk; exact ⟨k, hk, rfl⟩
        . rw [h2] at hk
          cases hs : U.h c with
          | none => rw [hs] at hk; cases hk
          | some k0 => rw [hs] at hk; simp only [Y61, fG, dM] at hk; subst hk; exact ⟨k0, rfl, rfl⟩
      . have j2 := kn.new b hb
        show Fj U.h b = none
        rcases Lj.cls b with g | g | g | ⟨g1, g2⟩
        . exact absurd hb (pr.spans b (j3 b g))
        . exact absurd j2 (Lj.has b (.inr g))
        . rw [g]; exact j2
        . exact absurd j2 (Lj.has b (.inl g1))
 refine ⟨⟨fun x hx b hb => ?_, fun hc c hk k jb row j1 b hb => ?_, fun b hb => ?_⟩, hn⟩
 . rw [ja x hx] at hb; exact kn.ops x hx b hb
 . obtain ⟨k', j4, hr⟩ := rows.1 c k hk hc jb
   exact kn.rows hc c hk k' j4 row (by rw [hr]; exact j1) b hb
 . rw [hn] at hb; exact rows.2 b hb
inductive Runs (E : Env) (tot : Nat) (gs : List G) : List Nat -> St -> St -> Prop
 | nil (U : St) : Runs E tot gs [] U U
 | cons {i : Nat} {is : List Nat} {g : G} {U U1 U2 : St} (hg : gs[i]? = some g) (d : Does E tot g U U1) (r : Runs E tot gs is U1 U2) : Runs E tot gs (i :: is) U U2
def Yac (sep : List (Opd × Opd)) : Opd -> Opd -> Bool
 | .t n, .t m => sep.any fun p => match p.1, p.2 with
   | .t a, .t b => a == n && b == m
   | _, _ => false
 | _, _ => true
def Zta (sep : List (Opd × Opd)) (xs ys : List Opd) : Bool := xs.all fun x => ys.all fun y => Yac sep x y
def Zd9 (sep : List (Opd × Opd)) (t : Nat) : Bool := sep.any fun p => match p.1, p.2 with
 | .t a, .k _ => a == t
 | _, _ => false
def Zr6 (sep : List (Opd × Opd)) : Opd -> Bool
 | .t t => Zd9 sep t
 | .k _ => true
def Zh7 (sep : List (Opd × Opd)) (gj gi : G) : Bool :=
 Z2a gj gi && (gi.op.light || gj.op.light || (gi.op.quiet && gj.op.isDc && gi.op.rdOpds.all (Zr6 sep)) || (gj.op.quiet && gi.op.isDc && gj.op.rdOpds.all (Zr6 sep)) || (gi.op.easy && gj.op.easy && (gj.op.mdOpds.isEmpty || gi.op.mdOpds.isEmpty) &&
  (gi.op.mdOpds.isEmpty || (!gj.op.isCall && Zta sep gj.op.rdOpds gi.op.mdOpds)) && (gj.op.mdOpds.isEmpty || (!gi.op.isCall && Zta sep gi.op.rdOpds gj.op.mdOpds))))
structure RegOk (tot : Nat) (gs : List G) (sep : List (Opd × Opd)) (masks : Nat -> Nat) : Prop where
 clean : ∀ (i : Nat) (g : G), gs[i]? = some g -> g.op.opds.all Vo = true
 names : ∀ (i j : Nat) (gi gj : G), i ≠ j -> gs[i]? = some gi -> gs[j]? = some gj -> ∀ n b, X1 (n + gj.op.names.1) gj.op.names.2 b -> ¬ X1 (n + gi.op.names.1) gi.op.names.2 b
 inTot : ∀ (i : Nat) (g : G), gs[i]? = some g -> g.op.names.2 ≠ 0 -> g.op.names.1 + g.op.names.2 <= tot
 pair : ∀ (j i : Nat) (gj gi : G), j < i -> gs[j]? = some gj -> gs[i]? = some gi -> (masks i).testBit j = false -> Zh7 sep gj gi = true
 stab : sep ≠ [] -> ∀ (i : Nat) (g : G), gs[i]? = some g -> ∀ t, (.t t ∈ g.op.rdOpds \/ .t t ∈ g.op.mdOpds) -> ∀ (k : Nat) (g' : G), i <= k -> gs[k]? = some g' -> g'.op.dst ≠ some t
theorem Zlm {gs : List G} {is : List Nat} {t : Nat} (r : Runs E tot gs is U Uf) (cl : ∀ (i : Nat) (g : G), gs[i]? = some g -> g.op.opds.all Vo = true) (h : ∀ i ∈ is, ∀ g, gs[i]? = some g -> g.op.dst ≠ some t) : Uf.s t = U.s t := by
 induction r with
 | nil => rfl
 | cons hg d r ih =>
   rw [ih (fun i hi => h i (eB _ hi))]
   obtain ⟨⟨u, hh, n, h1⟩, _⟩ := d.base (cl _ _ hg)
   rw [h1]
   exact Zm1 (fun k hk q => h _ dC _ hg (by rw [hk, q]))
theorem Y56 {a : A} {b : Nat} (h : b ∈ nmX a) : b ∈ nmX (unT a) := by
 cases a with
 | ifg g a => simp [nmX, Yk, A.cells, Zr, Xk] at h
 | _ => exact h
theorem Y24 {a : A} {b : Nat} (h : b ∈ Yk a) : b ∈ Yk (unT a) := by
 cases a with
 | ifg g a => simp [Yk] at h
 | _ => exact h
theorem Zut {g : G} {n b : Nat} (h : b ∈ nmX (ev (Zca g U) (.t n))) : b ∈ nmX (unT (U.s n)) := by
 cases g with
 | o op => exact Y56 h
 | g s w op => exact h
theorem Zyj {g : G} {n b : Nat} (h : b ∈ Yk (ev (Zca g U) (.t n))) : b ∈ Yk (unT (U.s n)) := by
 cases g with
 | o op => exact Y24 h
 | g s w op => exact h
theorem Zbs {a : A} (h : clean a = true) : nmX a = [] /\ nmP a = [] := by
 cases a with
 | v x => exact ⟨rfl, rfl⟩
 | lit ty r => exact ⟨rfl, rfl⟩
 | agg cs =>
   refine ⟨?_, rfl⟩
   simp only [nmX, Yk, A.cells, dH]
   simp only [clean] at h
   induction cs with
   | nil => rfl
   | cons c cs ih =>
     simp only [gZ, dQ] at h
     simp only [Zr, ih h.2, fD]
     cases c <;> first | rfl | (have := h.1; simp [Y2l] at this)
 | fn f caps =>
   cases caps with
   | nil => exact ⟨rfl, rfl⟩
   | cons c cs => simp [clean] at h
 | _ => simp [clean] at h
theorem Y1w {sep : List (Opd × Opd)} (h : Zk5 U sep = true) : ∀ p ∈ sep, Yaq (ev U p.1) (ev U p.2) = true := by
 induction sep with
 | nil => intro p hp; simp at hp
 | cons q qs ih =>
   simp only [Zk5, dQ] at h
   intro p hp
   rcases eK.1 hp with rfl | hp
   . exact h.1
   . exact ih h.2 p hp
theorem Zq3 {sep : List (Opd × Opd)} {ga gb : G} {xs ys : List Opd} (hs : Zk5 Uf sep = true) (ha : Zta sep xs ys = true) (cx : ∀ x ∈ xs, Vo x = true) (cy : ∀ y ∈ ys, Vo y = true)
 (ex : ∀ t, .t t ∈ xs -> sep ≠ [] -> Uf.s t = U.s t) (ey : ∀ t, .t t ∈ ys -> sep ≠ [] -> Uf.s t = U.s t) :
 ∀ x ∈ xs, ∀ y ∈ ys, ∀ b, b ∈ nmX (ev (Zca ga U) x) -> b ∈ Yk (ev (Zca gb U) y) -> False := by
 intro x hx y hy b h1 h2
 have j1 := cY.1 (cY.1 ha x hx) y hy
 cases x with
 | k a =>
   have : ev (Zca ga U) (.k a) = a := by cases ga <;> rfl
   rw [this, (Zbs (cx _ hx)).1] at h1
   simp at h1
 | t n =>
   cases y with
   | k a =>
     have : ev (Zca gb U) (.k a) = a := by cases gb <;> rfl
     rw [this] at h2
     have := (Zbs (cy _ hy)).1
     simp only [nmX, List.append_eq_nil_iff] at this
     rw [this.1] at h2
     simp at h2
   | t m =>
     simp only [Yac, List.any_eq_true] at j1
     obtain ⟨p, hp, he⟩ := j1
     obtain ⟨p1, p2⟩ := p
     cases p1 <;> cases p2 <;> simp at he
     obtain ⟨rfl, rfl⟩ := he
     have j0 : sep ≠ [] := fun q => by rw [q] at hp; simp at hp
     have hv := Y1w hs _ hp
     simp only [ev] at hv
     rw [ex _ hx j0, ey _ hy j0] at hv
     unfold Yaq at hv
     have := cY.1 hv b (Zyj h2)
     simp at this
     exact this (Zut h1)
theorem Zu4 {N : List Nat} {sep : List (Opd × Opd)} (h : Z1y Uf N sep = true) : ∀ t, Zd9 sep t = true -> ∀ b ∈ nmX (unT (Uf.s t)), b ∈ N := by
 induction sep with
 | nil => intro t ht; simp [Zd9] at ht
 | cons p ps ih =>
   intro t ht b hb
   obtain ⟨p1, p2⟩ := p
   have j0 : Zd9 [(p1, p2)] t = true \/ Zd9 ps t = true := by
    simp only [Zd9, List.any_cons, List.any_nil, Bool.or_false, fN] at ht ⊢
    exact ht
   cases p1 with
   | k a => 
     rcases j0 with h' | h'
     . simp [Zd9] at h'
     . exact ih (by simpa [Z1y] using h) t h' b hb
   | t a =>
     cases p2 with
     | t c =>
       rcases j0 with h' | h'
       . simp [Zd9] at h'
       . exact ih (by simpa [Z1y] using h) t h' b hb
     | k c =>
       simp only [Z1y, dQ] at h
       rcases j0 with h' | h'
       . simp [Zd9] at h'
         subst h'
         have := cY.1 h.1 b hb
         simpa using this
       . exact ih h.2 t h' b hb
theorem Zl9 {N : List Nat} {sep : List (Opd × Opd)} {g : G} {xs : List Opd} (hk : Z1y Uf N sep = true) (ha : xs.all (Zr6 sep) = true) (cx : ∀ x ∈ xs, Vo x = true) (ex : ∀ t, .t t ∈ xs -> sep ≠ [] -> Uf.s t = U.s t) :
 ∀ x ∈ xs, ∀ b ∈ nmX (ev (Zca g U) x), b ∈ N := by
 intro x hx b hb
 have j0 := cY.1 ha x hx
 cases x with
 | k a =>
   have : ev (Zca g U) (.k a) = a := by cases g <;> rfl
   rw [this, (Zbs (cx _ hx)).1] at hb
   simp at hb
 | t n =>
   have j1 : sep ≠ [] := fun q => by rw [q] at j0; simp [Zr6, Zd9] at j0
   have := Zut hb
   rw [<- ex n hx j1] at this
   exact Zu4 hk n j0 b this
theorem Ybu {N : List Nat} (hN : EnvKeep E N) {K : Nat -> Prop} {gs : List G} {sep : List (Opd × Opd)} {masks : Nat -> Nat} (R : RegOk tot gs sep masks) (hs : Zk5 Uf sep = true) (hkp : Z1y Uf N sep = true) {i : Nat} {gi : G} (hgi : gs[i]? = some gi) : ∀ (L1 L2 : List Nat) (U : St),
 (∀ j ∈ L1, j < i) -> L1.Pairwise (· < ·) -> (∀ k ∈ L2, i < k) -> (∀ j ∈ L1, (masks i).testBit j = false) ->
 (gi.op.light = true \/ (Kn K gi U /\ (∀ j ∈ L1, ∀ gj, gs[j]? = some gj -> ∀ b, X1 (U.n + gj.op.names.1) gj.op.names.2 b -> ¬ K b) /\ ∀ b, U.n + tot <= b -> ¬ K b)) ->
 (∀ t, (.t t ∈ gi.op.rdOpds \/ .t t ∈ gi.op.mdOpds) -> sep ≠ [] -> Uf.s t = U.s t) ->
 Runs E tot gs (L1 ++ i :: L2) U Uf -> ∃ U', Does E tot gi U U' /\ Runs E tot gs (L1 ++ L2) U' Uf := by
 intro L1
 induction L1 with
 | nil =>
   intro L2 U _ _ _ _ _ _ r
   cases r with
   | cons hg d r =>
     rw [hgi] at hg
     cases hg
     exact ⟨_, d, r⟩
 | cons j L1 ih =>
   intro L2 U hlt jg je hm hk j6 r
   cases r with
   | @cons _ _ gj _ U1 _ hgj dj r =>
     have j8 := hlt j dC
     have ci := R.clean i gi hgi
     have cj := R.clean j gj hgj
     have hp := R.pair j i gj gi j8 hgj hgi (hm j dC)
     simp only [Zh7, dQ, fN] at hp
     obtain ⟨sl, hp⟩ := hp
     obtain ⟨s1, s2, s3⟩ := Vh sl
     have j3 := fA.1 jg
     have ja : ∀ t, (.t t ∈ gj.op.rdOpds \/ .t t ∈ gj.op.mdOpds) -> sep ≠ [] -> Uf.s t = U.s t := fun t ht j7 => by
      have jc : Runs E tot gs (j :: (L1 ++ i :: L2)) U Uf := .cons hgj dj r
      refine Zlm jc R.clean (fun k hk g' jh => R.stab j7 j gj hgj t ht k g' ?_ jh)
      rcases eK.1 hk with rfl | hk
      . exact dO _
      . rcases dW.1 hk with hk | hk
        . exact Nat.le_of_lt (j3.1 k hk)
        . rcases eK.1 hk with rfl | hk
          . exact Nat.le_of_lt j8
          . exact Nat.le_of_lt (Nat.lt_trans j8 (je k hk))
     have jb : ∀ x ∈ gi.op.opds, Vo x = true := fun x hx => cY.1 ci x hx
     have jd : ∀ x ∈ gj.op.opds, Vo x = true := fun x hx => cY.1 cj x hx
     have j0 : gi.op.easy = true /\ gj.op.easy = true -> gi.op.light = false -> gj.op.light = false -> Kn K gi U -> (∀ b, X1 (U.n + gj.op.names.1) gj.op.names.2 b -> ¬ K b) -> Pair K gj gi U := by
      intro he h1 h2 kn j2
      rcases hp with (((hp | hp) | hp) | hp) | hp
      . rw [h1] at hp; cases hp
      . rw [h2] at hp; cases hp
      . rw [(Zcd hp.1.2).1] at he; cases he.2
      . rw [(Zcd hp.1.2).1] at he; cases he.1
      . simp only [hO, List.isEmpty_iff] at hp
        obtain ⟨⟨⟨⟨e1, e2⟩, e3⟩, e4⟩, e5⟩ := hp
        refine ⟨sl, j2, R.names i j gi gj (by omega) hgi hgj U.n, e3, ?_, ?_, ?_, ?_⟩
        . rcases e4 with h | h
          . exact .inl h
          . exact .inr h.1
        . rcases e5 with h | h
          . exact .inl h
          . exact .inr h.1
        . rcases e4 with h | h
          . intro x _ y hy; rw [h] at hy; simp at hy
          . exact Zq3 hs h.2 (fun x hx => jd x (Z04 x hx)) (fun y hy => jb y (Z2f y hy)) (fun t ht => ja t (.inl ht)) (fun t ht => j6 t (.inr ht))
        . rcases e5 with h | h
          . intro x _ y hy; rw [h] at hy; simp at hy
          . exact Zq3 hs h.2 (fun x hx => jb x (Z04 x hx)) (fun y hy => jd y (Z2f y hy)) (fun t ht => j6 t (.inl ht)) (fun t ht => ja t (.inr ht))
     have j5 : gi.op.light = true \/ gj.op.light = true \/ (gi.op.easy = true /\ gj.op.easy = true) \/ (gi.op.quiet = true /\ gj.op.isDc = true /\ ∀ x ∈ gi.op.rdOpds, ∀ b ∈ nmX (ev (Zca gi U) x), b ∈ N) \/ (gj.op.quiet = true /\ gi.op.isDc = true /\ ∀ x ∈ gj.op.rdOpds, ∀ b ∈ nmX (ev (Zca gj U) x), b ∈ N) := by
      rcases hp with (((hp | hp) | hp) | hp) | hp
      . exact .inl hp
      . exact .inr (.inl hp)
      . exact .inr (.inr (.inr (.inl ⟨hp.1.1, hp.1.2, Zl9 hkp hp.2 (fun x hx => jb x (Z04 x hx)) (fun t ht => j6 t (.inl ht))⟩)))
      . exact .inr (.inr (.inr (.inr ⟨hp.1.1, hp.1.2, Zl9 hkp hp.2 (fun x hx => jd x (Z04 x hx)) (fun t ht => ja t (.inl ht))⟩)))
      . exact .inr (.inr (.inl hp.1.1.1))
     have ft : Ydk N K gj gi U := by
      cases h1 : gi.op.light with
      | true => exact .inl h1
      | false =>
        cases h2 : gj.op.light with
        | true => exact .inr (.inl h2)
        | false =>
          rcases hk with h | ⟨kn, j2, _⟩
          . rw [h1] at h; cases h
          . rcases j5 with h | h | h | h | h
            . rw [h1] at h; cases h
            . rw [h2] at h; cases h
            . exact .inr (.inr (.inl ⟨h.1, h.2, kn, j0 h h1 h2 kn (j2 j dC gj hgj)⟩))
            . exact .inr (.inr (.inr (.inl h)))
            . exact .inr (.inr (.inr (.inr h)))
     have jf : gi.op.light = true \/ (Kn K gi U1 /\ (∀ j ∈ L1, ∀ gj, gs[j]? = some gj -> ∀ b, X1 (U1.n + gj.op.names.1) gj.op.names.2 b -> ¬ K b) /\ ∀ b, U1.n + tot <= b -> ¬ K b) := by
      cases h1 : gi.op.light with
      | true => exact .inl rfl
      | false =>
        right
        rcases hk with h | ⟨kn, j2, j4⟩
        . rw [h1] at h; cases h
        . have fin : Kn K gi U1 -> (U1.n = U.n \/ U.n + tot <= U1.n) -> (Kn K gi U1 /\ (∀ j ∈ L1, ∀ gj, gs[j]? = some gj -> ∀ b, X1 (U1.n + gj.op.names.1) gj.op.names.2 b -> ¬ K b) /\ ∀ b, U1.n + tot <= b -> ¬ K b) := by
           intro j1 hn
           refine ⟨j1, fun k ji gk jj b hb => ?_, fun b hb => ?_⟩
           . rcases hn with hn | hn
             . rw [hn] at hb; exact j2 k (eB _ ji) gk jj b hb
             . exact j4 b (by simp only [X1] at hb; omega)
           . exact j4 b (by rcases hn with hn | hn <;> omega)
          rcases j5 with h | h | h | h | h
          . rw [h1] at h; cases h
          . obtain ⟨j1, hn⟩ := kn.step ci cj sl dj (.inl h)
            exact fin j1 (.inl hn)
          . cases h2 : gj.op.light with
            | true =>
              obtain ⟨j1, hn⟩ := kn.step ci cj sl dj (.inl h2)
              exact fin j1 (.inl hn)
            | false =>
              obtain ⟨j1, hn⟩ := kn.step ci cj sl dj (.inr ⟨h.2, j0 h h1 h2 kn (j2 j dC gj hgj)⟩)
              exact fin j1 (.inl hn)
          . obtain ⟨q1, _, q3, _⟩ := Ze9 h.1
            exact fin (kn.still cj sl dj (.inr ⟨q1, q3⟩) (.inr q1)) (dj.kept hN h.2.1).2
          . have hh : U1.h = U.h /\ U1.n = U.n := by
             cases dj with
             | run ha e => obtain ⟨u, e1, _⟩ := Zaf h.1 cj ha e; rw [e1]; exact ⟨rfl, rfl⟩
             | skip ht hu => exact ⟨rfl, rfl⟩
            exact fin (kn.still cj sl dj (.inl hh.1) (.inl hh.2)) (.inl hh.2)
     have j9 : ∀ t, (.t t ∈ gi.op.rdOpds \/ .t t ∈ gi.op.mdOpds) -> sep ≠ [] -> Uf.s t = U1.s t := fun t ht j7 => by
      rw [j6 t ht j7]
      obtain ⟨⟨u, hh, n, h1⟩, _⟩ := dj.base cj
      have jl : .t t ∈ gi.op.opds := by
       rcases ht with ht | ht
       . exact Z04 _ ht
       . exact Z2f _ ht
      rw [h1]
      exact (Znm (g := gi) (U2 := ⟨put U.s gj.op.dst u, hh, n, U.base⟩) (Z1n s1) jl).symm
     obtain ⟨jm, d1, r1⟩ := ih L2 U1 (fun k hk => hlt k (eB _ hk)) j3.2 je (fun k hk => hm k (eB _ hk)) jf j9 r
     obtain ⟨U', d2, d3⟩ := Ydu hN ci cj sl ft dj d1
     exact ⟨U', d2, .cons hgj d3 r1⟩
end Go.Vm
namespace Go.Vm
open Go.RowKit
variable {P : Program} {C C' C'' : Rho} {S S' S'' : Nat -> Prop} {w w' w'' : World} {B N : Nat} {h : Hp} {E : Env} {tot base : Nat}
theorem Zsy (hE : EnvOk P E) {U U' : St} {a : Act} {ops : Array Oper} {i : Nat} {o : Oper} {g : G} {Q : Exit -> Act -> World -> Prop} (hi : ops[i]? = some o) (T : SW P C S B N U a w) (ok : okG P N ops o g = true)
 (hf : ∀ b, lays tot U.n g.op b -> C b = none) (d : Does E tot g U U') {K : Act -> World -> Prop}
 (k : ∀ v w', Fin' P B C S w (lays tot U.n g.op) g.op.isD U U' g.op.dst v w' -> K (a.put o.dst v) w') : wpOp P ops Q i K a w := by
 cases d with
 | run ha e => exact Zhy hE hi T ok hf e k
 | @skip s wt op _ u ht hu =>
   unfold wpOp
   rw [hi]
   simp only [okG, dQ, eJ] at ok
   obtain ⟨⟨⟨ok1, ok2⟩, j2⟩, ok4⟩ := ok
   have j1 : ∃ j w1, o.guard = some (j, w1) /\ w1 = wt /\ (ops[j]?).bind (·.dst) = some s := by
    cases hg : o.guard with
    | none => rw [hg] at ok4; simp at ok4
    | some p =>
      obtain ⟨j, w1⟩ := p
      rw [hg] at ok4
      simp only [dQ, beq_iff_eq, eJ] at ok4
      exact ⟨j, w1, rfl, ok4.1, ok4.2⟩
   obtain ⟨j, w1, hg, hw, hs⟩ := j1
   have j0 := Ze4 T hg hw hs ht
   simp only [j0]
   simp only [eH, if_false]
   refine k undef w ⟨u, rfl, C, S, Mv.refl _ _ _ _ _, T.heap, ?_, .inl ⟨rfl, .inr fun _ h => h⟩⟩
   rcases hu with rfl | ⟨a', rfl⟩
   . exact .und
   . exact .ifF a'
structure MvX (base B : Nat) (C : Rho) (S : Nat -> Prop) (w : World) (C' : Rho) (S' : Nat -> Prop) (w' : World) : Prop where
 same : ∀ b, b < base -> C' b = C b
 sub : ∀ k, S k -> S' k
 ext : Ext S w w'
 below : Below B w w'
 back : ∀ k, S' k -> S k \/ B <= k
theorem MvX.refl : MvX base B C S w C S w := ⟨fun _ _ => rfl, fun _ h => h, Ext.refl _ _, Below.refl _ _, fun _ h => .inl h⟩
theorem MvX.trans (a : MvX base B C S w C' S' w') (b : MvX base B C' S' w' C'' S'' w'') : MvX base B C S w C'' S'' w'' :=
 ⟨fun x hx => (b.same x hx).trans (a.same x hx), fun k e => b.sub k (a.sub k e), a.ext.trans a.sub b.ext, a.below.trans b.below, fun k hk => by rcases b.back k hk with h | h; exact a.back k h; exact .inr h⟩
theorem Mv.x {iv : Nat -> Prop} (m : Mv B C S w C' S' w' iv) (h : ∀ b, iv b -> base <= b) : MvX base B C S w C' S' w' := by
 refine ⟨fun b hb => ?_, m.sub, m.ext, m.below, m.back⟩
 cases hr : C b with
 | some l => exact m.le b l hr
 | none => exact m.new b hr (fun q => by have := h b q; omega)
theorem Zwf {n : Nat} {op : AOp} {b : Nat} (h : lays tot n op b) : n <= b := by
 unfold lays at h
 split at h
 . omega
 . simp only [X1] at h; omega
structure Fr (C : Rho) (tot n : Nat) (gs : List G) (is : List Nat) : Prop where
 at_ : ∀ i ∈ is, ∀ g, gs[i]? = some g -> ∀ b, X1 (n + g.op.names.1) g.op.names.2 b -> C b = none
 out : ∀ b, n + tot <= b -> C b = none
theorem Fr.lays {n : Nat} {gs : List G} {is : List Nat} (f : Fr C tot n gs is) {i : Nat} (hi : i ∈ is) {g : G} (hg : gs[i]? = some g) : ∀ b, lays tot n g.op b -> C b = none := by
 intro b hb
 unfold Vm.lays at hb
 split at hb
 . exact f.out b hb
 . exact f.at_ i hi g hg b hb
theorem Fr.step {gs : List G} {is js : List Nat} {i : Nat} {g : G} {n n' : Nat} (f : Fr C tot n gs is) (hi : i ∈ is) (hg : gs[i]? = some g) (hsub : ∀ k ∈ js, k ∈ is /\ k ≠ i)
 (names : ∀ (i j : Nat) (gi gj : G), i ≠ j -> gs[i]? = some gi -> gs[j]? = some gj -> ∀ n b, X1 (n + gj.op.names.1) gj.op.names.2 b -> ¬ X1 (n + gi.op.names.1) gi.op.names.2 b) (inTot : ∀ (i : Nat) (g : G), gs[i]? = some g -> g.op.names.2 ≠ 0 -> g.op.names.1 + g.op.names.2 <= tot)
 {C' : Rho} (hnew : ∀ b, C b = none -> ¬ Vm.lays tot n g.op b -> C' b = none) (hn : (n' = n /\ (g.op.isD = false \/ ∀ b, C b = none -> C' b = none)) \/ (n <= n' /\ ∀ b, n' <= b -> C' b = none)) : Fr C' tot n' gs js := by
 rcases hn with ⟨rfl, hd⟩ | ⟨j3, j1⟩
 . have j0 : ∀ b, C b = none -> (g.op.isD = false -> ¬ Vm.lays tot n' g.op b) -> C' b = none := fun b hb hq => by
    rcases hd with hd | hd
    . exact hnew b hb (hq hd)
    . exact hd b hb
   refine ⟨fun k hk gk j2 b hb => ?_, fun b hb => ?_⟩
   . obtain ⟨h1, h2⟩ := hsub k hk
     refine j0 b (f.at_ k h1 gk j2 b hb) (fun hd q => ?_)
     unfold Vm.lays at q
     rw [hd] at q
     simp only [eH, if_false] at q
     exact names i k g gk (fun e => h2 e.symm) hg j2 _ b hb q
   . refine j0 b (f.out b hb) (fun hd q => ?_)
     unfold Vm.lays at q
     rw [hd] at q
     simp only [eH, if_false, X1] at q
     have := inTot i g hg (by omega)
     omega
 . exact ⟨fun k hk gk j2 b hb => j1 b (by simp only [X1] at hb; omega), fun b hb => j1 b (by omega)⟩
theorem Zf2 (hE : EnvOk P E) {ops : Array Oper} {gs : List G} {Q : Exit -> Act -> World -> Prop} (hlen : gs.length = ops.size) (okg : ∀ (i : Nat) (o : Oper) (g : G), ops[i]? = some o -> gs[i]? = some g -> okG P N ops o g = true)
 (names : ∀ (i j : Nat) (gi gj : G), i ≠ j -> gs[i]? = some gi -> gs[j]? = some gj -> ∀ n b, X1 (n + gj.op.names.1) gj.op.names.2 b -> ¬ X1 (n + gi.op.names.1) gi.op.names.2 b) (inTot : ∀ (i : Nat) (g : G), gs[i]? = some g -> g.op.names.2 ≠ 0 -> g.op.names.1 + g.op.names.2 <= tot) {Uf : St} :
 ∀ (rest : List G) (k : Nat) (C : Rho) (S : Nat -> Prop) (U : St) (a : Act) (w : World), gs.drop k = rest -> k <= gs.length -> SW P C S B N U a w -> Fr C tot U.n gs (List.range' k rest.length) -> base <= U.n -> Ze E tot rest U = some Uf ->
  (∀ C' S' a' w', MvX base B C S w C' S' w' -> SW P C' S' B N Uf a' w' -> (∀ b, Uf.n + tot <= b -> C' b = none) -> Q .normal a' w') -> wpOps P ops Q (List.range' k rest.length) a w
 | [], k, C, S, U, a, w, hd, hk, T, f, hb, e, q => by
   simp only [Ze, dM] at e
   subst e
   exact q C S a w MvX.refl T f.out
 | g :: rest, k, C, S, U, a, w, hd, hk, T, f, hb, e, q => by
   obtain ⟨U1, h1, e1⟩ := Z6 e
   have j2 : gs[k]? = some g := by
    have := congrArg (·[0]?) hd
    simpa [eX] using this
   have j7 : k < gs.length := (dU.1 j2).1
   obtain ⟨o, ho⟩ : ∃ o, ops[k]? = some o := ⟨ops[k]'(by omega), eR (by omega)⟩
   have j1 := okg k o g ho j2
   have j0 : k ∈ List.range' k (g :: rest).length := by simp [List.mem_range']
   show wpOps P ops Q (List.range' k (rest.length + 1)) a w
   rw [List.range'_succ, wpOps_cons]
   refine Zhy hE ho T j1 (f.lays j0 j2) h1 (fun v w1 hf => ?_)
   simp only [okG, dQ, eJ] at j1
   rw [j1.1.1.2] at *
   obtain ⟨C1, S1, M, T1, j4, hn⟩ := hf.SW T j1.1.2
   have j6 : gs.drop (k + 1) = rest := by
    have := congrArg List.tail hd
    simpa [List.tail_drop] using this
   have j3 : ∀ j ∈ List.range' (k + 1) rest.length, j ∈ List.range' k (g :: rest).length /\ j ≠ k := by
    intro j hj
    simp only [List.mem_range'_1, eF] at hj ⊢
    omega
   have f1 := f.step j0 j2 j3 names inTot (fun b h1 h2 => M.new b h1 h2) hn
   refine Zf2 hE hlen okg names inTot rest (k + 1) C1 S1 U1 _ w1 j6 (by omega) T1 f1 (by rcases hn with h | h <;> omega) e1 (fun C2 S2 a2 w2 M2 T2 h2 => q C2 S2 a2 w2 ((M.x (fun b j5 => by have := Zwf j5; omega)).trans M2) T2 h2)
def Zil (m : Nat -> Nat) (o : Oper) : Nat := o.after.toList.foldl (fun s e => if Region.binds .any e then s ||| 2 ^ e.on ||| m e.on else s) 0
theorem Zh4 (m : Nat -> Nat) (j : Nat) : ∀ (l : List Edge) (s : Nat), (l.foldl (fun s e => if Region.binds .any e then s ||| 2 ^ e.on ||| m e.on else s) s).testBit j = true ->
 s.testBit j = true \/ ∃ e ∈ l, Region.binds .any e = true /\ (e.on = j \/ (m e.on).testBit j = true)
 | [], s, h => .inl h
 | e :: l, s, h => by
   simp only [List.foldl_cons] at h
   rcases Zh4 m j l _ h with h | ⟨e', he, r⟩
   . split at h
     . rename_i hb
       simp only [Nat.testBit_or, fN, Nat.testBit_two_pow, eJ] at h
       rcases h with (h | h) | h
       . exact .inl h
       . exact .inr ⟨e, by simp, hb, .inl h⟩
       . exact .inr ⟨e, by simp, hb, .inr h⟩
     . exact .inl h
   . exact .inr ⟨e', by simp [he], r⟩
theorem Zma {m : Nat -> Nat} {o : Oper} {j : Nat} (h : (Zil m o).testBit j = true) : ∃ e ∈ o.after, Region.binds .any e = true /\ (e.on = j \/ (m e.on).testBit j = true) := by
 rcases Zh4 m j _ 0 h with h | ⟨e, he, r⟩
 . simp at h
 . exact ⟨e, by simpa using he, r⟩
structure MaskOk (ops : Array Oper) (masks : Nat -> Nat) : Prop where
 at_ : ∀ (i : Nat) (o : Oper), ops[i]? = some o -> masks i = Zil masks o
 edge : ∀ (i : Nat) (o : Oper), ops[i]? = some o -> ∀ e ∈ o.after, Region.binds .any e = true -> e.on < i
theorem Zpc {ops : Array Oper} {masks : Nat -> Nat} (M : MaskOk ops masks) {X : Nat -> Prop} (hX : ∀ (i : Nat) (o : Oper), ops[i]? = some o -> X i -> ∀ e ∈ o.after, Region.binds .any e = true -> X e.on) :
 ∀ (i : Nat) (o : Oper), ops[i]? = some o -> (∀ e ∈ o.after, Region.binds .any e = true -> X e.on) -> ∀ j, (masks i).testBit j = true -> X j := by
 intro i
 induction i using Nat.strongRecOn with
 | _ i ih =>
   intro o ho j0 j hj
   rw [M.at_ i o ho] at hj
   obtain ⟨e, he, hb, h⟩ := Zma hj
   have j2 := j0 e he hb
   rcases h with rfl | h
   . exact j2
   . have hlt := M.edge i o ho e he hb
     have hi : i < ops.size := (eC.1 ho).1
     have j1 : ops[e.on]? = some (ops[e.on]'(by omega)) := eR (by omega)
     exact ih e.on hlt _ j1 (hX e.on _ j1 j2) j h
theorem Zb6 {a : A} {x : Value} (r : R P C S w a x) : ∀ b, b ∈ nmX a \/ b ∈ nmP a -> C b ≠ none := by
 intro b hb
 have cells : ∀ (as : List A) (vs : List Value), RL P C S w as vs -> b ∈ Zr as -> C b ≠ none := fun as vs r h => Z7f r h
 cases r with
 | ref ty b' off len cap ex k sz c ad h1 =>
   simp [nmX, Yk, A.cells, Zr, Xk, nmP] at hb; subst hb; rw [h1]; simp
 | nil ty b' ex h1 => simp [nmX, Yk, A.cells, Zr, Xk, nmP] at hb; subst hb; rw [h1]; simp
 | ptr b' i j k sz h1 => simp [nmX, Yk, A.cells, Zr, Xk, nmP] at hb; subst hb; rw [h1]; simp
 | agg cs vs hl hr =>
   rcases hb with hb | hb
   . simp only [nmX, Yk, A.cells, dH] at hb
     exact cells cs vs ⟨hl, hr⟩ hb
   . simp [nmP] at hb
 | fn f caps vs hp hl hr =>
   rcases hb with hb | hb
   . simp [nmX, Yk, A.cells, Zr, Xk] at hb
   . simp only [nmP] at hb
     have : ∀ (as : List A) (vs : List Value), Wg as = true -> RL P C S w as vs -> b ∈ Z78 as -> C b ≠ none := by
      intro as
      induction as with
      | nil => intro vs _ _ h; simp [Z78] at h
      | cons a as ih =>
        intro vs hp r h
        simp only [Wg, dQ] at hp
        obtain ⟨x, xs, rfl, r1, r2⟩ := r.inv_cons
        simp only [Z78, dW] at h
        rcases h with h | h
        . cases r1 with
          | ptr b' i j k sz h1 => simp [Yk] at h; subst h; rw [h1]; simp
          | pl row j k o Y h1 h2 h3 => simp [Yk] at h
          | _ => simp [Zmy] at hp
        . exact ih xs hp.2 r2 h
     exact this caps vs hp ⟨hl, hr⟩ hb
 | _ => simp [nmX, Yk, A.cells, Zr, Xk, nmP] at hb
theorem Ycr {U : St} {a : Act} {gi : G} (T : SW P C S B N U a w) (cl : gi.op.opds.all Vo = true) (hf : ∀ b, X1 (U.n + gi.op.names.1) gi.op.names.2 b -> C b = none) : Kn (fun b => C b ≠ none) gi U := by
 refine ⟨fun x hx b hb => ?_, fun _ c hc k hk row j1 b hb => ?_, fun b hb => ?_⟩
 . cases x with
   | t n =>
     have r : R P C S w (ev (Zca gi U) (.t n)) (a.tmps.getD n undef) := by
      cases gi with
      | o op => exact T.slot n
      | g s wt op => exact Y09 (T.slot n)
     exact Zb6 r b hb
   | k v =>
     have : ev (Zca gi U) (.k v) = v := by cases gi <;> rfl
     rw [this] at hb
     have hc := cY.1 cl _ hx
     obtain ⟨h1, h2⟩ := Zbs (a := v) hc
     rw [h1, h2] at hb
     simp at hb
 . rcases T.heap.at_ c k hk with ⟨k', sz, j4, hB⟩ | ⟨_, hr, _⟩
   . obtain ⟨cs, _, _, j3⟩ := hB.here
     obtain ⟨i, hi⟩ := eU j1
     have : ∀ (r : List A) (j0 : Nat), (∀ (j : Nat) (x : A), r[j]? = some x -> ∃ y, R P C S w x y) -> b ∈ Zr r -> C b ≠ none := by
      intro r
      induction r with
      | nil => intro _ _ h; simp [Zr] at h
      | cons x r ih =>
        intro j0 h j2
        simp only [Zr, dW] at j2
        rcases j2 with j2 | j2
        . obtain ⟨y, hy⟩ := h 0 x rfl
          exact Zct hy j2
        . exact ih 0 (fun j x hx => h (j + 1) x (by simpa using hx)) j2
     exact this row 0 (fun j x hx => by obtain ⟨y, _, hr⟩ := j3 i row j x hi hx; exact ⟨y, hr⟩) hb
   . rw [hr] at j1; simp at j1
 . cases hs : U.h b with
   | none => rfl
   | some k => exact absurd (hf b hb) (T.heap.known hs)
theorem Y3w {N0 : List Nat} (hN : EnvKeep E N0) (hE : EnvOk P E) {ops : Array Oper} {gs : List G} {sep : List (Opd × Opd)} {masks : Nat -> Nat} {Q : Exit -> Act -> World -> Prop} (hlen : gs.length = ops.size) (okg : ∀ (i : Nat) (o : Oper) (g : G), ops[i]? = some o -> gs[i]? = some g -> okG P N ops o g = true)
 (RO : RegOk tot gs sep masks) (MO : MaskOk ops masks) {Uf : St} (hs : Zk5 Uf sep = true) (hkp : Z1y Uf N0 sep = true) :
 ∀ (fuel : Nat) (listed : Array Bool) (is : List Nat) (C : Rho) (S : Nat -> Prop) (U : St) (a : Act) (w : World), listed.size = ops.size -> is.Pairwise (· < ·) -> (∀ i, i ∈ is ↔ i < ops.size /\ listed.getD i true = false) ->
  (∀ (i : Nat) (o : Oper), ops[i]? = some o -> listed.getD i true = true -> ∀ e ∈ o.after, Region.binds .any e = true -> listed.getD e.on true = true) -> is.length <= fuel ->
  SW P C S B N U a w -> Fr C tot U.n gs is -> base <= U.n -> Runs E tot gs is U Uf ->
  (∀ C' S' a' w', MvX base B C S w C' S' w' -> SW P C' S' B N Uf a' w' -> (∀ b, Uf.n + tot <= b -> C' b = none) -> Q .normal a' w') -> wpAny P .any ops Q fuel listed a w := by
 intro fuel
 induction fuel with
 | zero =>
   intro listed is C S U a w jn je j0 jj jq T f hb r q
   have jg : is = [] := dA (by omega)
   subst jg
   cases r with
   | nil =>
     refine ⟨?_, q C S a w MvX.refl T f.out⟩
     unfold Region.ready
     rw [gW]
     intro i hi
     simp only [List.mem_range] at hi
     have : listed.getD i true = true := by
      cases h : listed.getD i true with
      | true => rfl
      | false => have := (j0 i).2 ⟨hi, h⟩; simp at this
     rw [this]
     simp
 | succ fuel ih =>
   intro listed is C S U a w jn je j0 jj jq T f hb r q
   refine ⟨fun hr => ?_, fun i hi => ?_⟩
   . -- nothing is ready: all is done
     cases is with
     | nil =>
       cases r with
       | nil => exact q C S a w MvX.refl T f.out
     | cons i is =>
       exfalso
       obtain ⟨jd, js⟩ := (j0 i).1 dC
       have jf : ∀ j, j < i -> listed.getD j true = true := fun j hj => by
        cases hq : listed.getD j true with
        | true => rfl
        | false =>
          have jh := (j0 j).2 ⟨by omega, hq⟩
          have hp := fA.1 je
          rcases eK.1 jh with rfl | jh
          . omega
          . have := hp.1 j jh; omega
       have ho : ops[i]? = some ops[i] := eR jd
       have : i ∈ Region.ready .any ops listed := mem_ready.2 ⟨js, _, ho, fun e he j4 => by
        have hlt := MO.edge i _ ho e he j4
        have h1 := jf e.on hlt
        have jx : e.on < listed.size := by omega
        simp [Array.getD, jx] at h1 ⊢
        exact h1⟩
       rw [hr] at this
       simp at this
   . obtain ⟨jw, o, ho, j8⟩ := mem_ready.1 hi
     have jd : i < ops.size := (eC.1 ho).1
     have jb : i ∈ is := (j0 i).2 ⟨jd, jw⟩
     obtain ⟨L1, L2, rfl⟩ := List.append_of_mem jb
     obtain ⟨g, hg⟩ : ∃ g, gs[i]? = some g := ⟨gs[i]'(by omega), dS (by omega)⟩
     have j3 := okg i o g ho hg
     have j7 := List.pairwise_append.1 je
     have jc := fA.1 j7.2.1
     have ji : ∀ j ∈ L1, j < i := fun j hj => j7.2.2 j hj i dC
     have j6 : ∀ k, listed.getD k false = true -> listed.getD k true = true := fun k hk => by
      by_cases hks : k < listed.size
      . simp [Array.getD, hks] at hk ⊢; exact hk
      . simp [Array.getD, hks] at hk
     have j1 : ∀ j ∈ L1, (masks i).testBit j = false := fun j hj => by
      cases hq : (masks i).testBit j with
      | false => rfl
      | true =>
        have := Zpc MO (X := fun k => listed.getD k true = true) jj i o ho (fun e he j4 => j6 _ (j8 e he j4)) j hq
        have jy := ((j0 j).1 (by simp [hj])).2
        rw [jy] at this; cases this
     have kn := Ycr T (RO.clean i g hg) (f.at_ i jb g hg)
     have j5 : ∀ t, (.t t ∈ g.op.rdOpds \/ .t t ∈ g.op.mdOpds) -> sep ≠ [] -> Uf.s t = U.s t := fun t ht jr => by
      refine Zlm r RO.clean (fun k hk g' jl => ?_)
      rcases dW.1 hk with hk | hk
      . -- an operation that i need not wait for
        have jp := RO.pair k i g' g (ji k hk) jl hg (j1 k hk)
        simp only [Zh7, dQ] at jp
        obtain ⟨s1, _, _⟩ := Vh jp.1
        intro hd
        refine s1 t hd ?_
        have jo : .t t ∈ g.op.opds := by
         rcases ht with ht | ht
         . exact Z04 _ ht
         . exact Z2f _ ht
        cases g with
        | o op => exact Z1g jo
        | g s wt op => exact eB _ (Z1g jo)
      . refine RO.stab jr i g hg t ht k g' ?_ jl
        rcases eK.1 hk with rfl | hk
        . exact dO _
        . exact Nat.le_of_lt (jc.1 k hk)
     obtain ⟨U1, hd, hr⟩ := Ybu hN RO hs hkp hg L1 L2 U ji j7.1 jc.1 j1 (.inr ⟨kn, fun j hj gj jt b j9 hk => hk (f.at_ j (by simp [hj]) gj jt b j9), fun b j9 hk => hk (f.out b j9)⟩) j5 r
     refine Zsy hE ho T j3 (f.lays jb hg) hd (fun v w1 hf => ?_)
     have j2 := j3
     simp only [okG, dQ, eJ] at j2
     rw [j2.1.1.2] at *
     obtain ⟨C1, S1, M, T1, jm, hn⟩ := hf.SW T j2.1.2
     have ju : i ∉ L1 ++ L2 := fun hm => by
      rcases dW.1 hm with hm | hm
      . exact eL _ (ji i hm)
      . exact eL _ (jc.1 i hm)
     have ja : ∀ j ∈ L1 ++ L2, j ∈ L1 ++ i :: L2 /\ j ≠ i := fun j hj => ⟨by
      rcases dW.1 hj with hj | hj
      . simp [hj]
      . simp [hj], fun q => ju (q ▸ hj)⟩
     have f1 := f.step jb hg ja RO.names RO.inTot (fun b h1 h2 => M.new b h1 h2) hn
     have jv : i < listed.size := by omega
     have hset : ∀ k d, (listed.setIfInBounds i true).getD k d = if k = i then true else listed.getD k d := fun k d => by
      by_cases hk : k = i
      . subst hk; simp [Array.getD, jv]
      . rw [if_neg hk, getD_set_ne d (fun q => hk q.symm)]
     refine ih (listed.setIfInBounds i true) (L1 ++ L2) C1 S1 U1 _ w1 (by simp [jn]) ?_ (fun k => ?_) (fun k ok j3 hk e he j4 => ?_) (by simp at jq ⊢; omega) T1 f1 (by rcases hn with h | h <;> omega) hr (fun C2 S2 a2 w2 M2 T2 h2 => q C2 S2 a2 w2 ((M.x (fun b j9 => by have := Zwf j9; omega)).trans M2) T2 h2)
     . rw [List.pairwise_append]
       exact ⟨j7.1, jc.2, fun x hx y hy => j7.2.2 x hx y (eB _ hy)⟩
     . rw [hset]
       constructor
       . intro hk
         have h1 := ja k hk
         have h2 := (j0 k).1 h1.1
         exact ⟨h2.1, by rw [if_neg h1.2]; exact h2.2⟩
       . rintro ⟨h1, h2⟩
         by_cases hki : k = i
         . rw [if_pos hki] at h2; cases h2
         . rw [if_neg hki] at h2
           have := (j0 k).2 ⟨h1, h2⟩
           rcases dW.1 this with h | h
           . simp [h]
           . rcases eK.1 h with h | h
             . exact absurd h hki
             . simp [h]
     . rw [hset] at hk ⊢
       split
       . rfl
       . by_cases hki : k = i
         . subst hki
           rw [ho] at j3
           cases j3
           exact j6 _ (j8 e he j4)
         . rw [if_neg hki] at hk
           exact jj k ok j3 hk e he j4
end Go.Vm
namespace Go.Vm
open Go.RowKit
def Y79 (P : Program) (N : Nat) (ops : Array Oper) : List Oper -> List G -> Bool
 | [], [] => true
 | o :: os, g :: gs => okG P N ops o g && Y79 P N ops os gs
 | _, _ => false
def Zaj (tot : Nat) : List G -> Nat -> Bool
 | [], c => decide (c <= tot)
 | g :: gs, c => (g.op.names.2 == 0 && Zaj tot gs c) || (g.op.names.1 == c && Zaj tot gs (c + g.op.names.2))
def Y5r (gs : List G) : Bool := gs.all fun g => g.op.opds.all Vo
def Zj5 (m : Nat -> Nat) : List Oper -> Nat -> Bool
 | [], _ => true
 | o :: os, i => (m i == Zil m o) && o.after.toList.all (fun e => !Region.binds .any e || decide (e.on < i)) && Zj5 m os (i + 1)
def Zb2 (sep : List (Opd × Opd)) (mask : Nat) (g : G) : List G -> Nat -> Bool
 | [], _ => true
 | gj :: gs, j => (mask.testBit j || Zh7 sep gj g) && Zb2 sep mask g gs (j + 1)
def Zip (sep : List (Opd × Opd)) (m : Nat -> Nat) (pre : List G) : List G -> Nat -> Bool
 | [], _ => true
 | g :: gs, i => Zb2 sep (m i) g pre 0 && Zip sep m (pre ++ [g]) gs (i + 1)
def Zql : List G -> Bool
 | [] => true
 | g :: gs => (Z4o (g.op.rdOpds ++ g.op.mdOpds)).all (fun t => (g :: gs).all fun g' => g'.op.dst != some t) && Zql gs
def Zxc (ms : List Nat) (i : Nat) : Nat := ms.getD i 0
def Zs1 (P : Program) (N tot : Nat) (sep : List (Opd × Opd)) (ops : Array Oper) (draw : Bool) (gs : List G) : Bool :=
 Y79 P N ops ops.toList gs && Zaj tot gs 0 && (if draw then
  Y5r gs && Zj5 (Zxc (Region.before ops).toList) ops.toList 0 && Zip sep (Zxc (Region.before ops).toList) [] gs 0 && (sep.isEmpty || Zql gs)
 else sep.isEmpty)
def Zxj (sep : List (Opd × Opd)) : Bool := sep.all fun p => match p.1, p.2 with
 | .t _, .k _ => false
 | _, _ => true
def Yi (P : Program) (N : Nat) : ACode -> Code -> Bool
 | .sk, .skip => true
 | .rg tot _ gs, .region _ ops draw => Zs1 P N tot [] ops draw gs
 | .rgs tot sep gs, .region _ ops draw => Zs1 P N tot sep ops draw gs && Zxj sep
 | .rgk tot sep _ gs, .region _ ops draw => Zs1 P N tot sep ops draw gs
 | .sq a b, .seq x y => Yi P N a x && Yi P N b y
 | .ite c a b, .cond c' x y => Yx c' c && Yi P N a x && Yi P N b y
 | .bl i c, .block j x => decide (i = j) && Yi P N c x
 | .lp _ c, .loop x => Yi P N c x
 | .xt i, .exit j => decide (i = j)
 | .rt, .ret => true
 | _, _ => false
variable {P : Program} {N tot : Nat} {ops : Array Oper}
theorem Zw2 : ∀ {os : List Oper} {gs : List G}, Y79 P N ops os gs = true -> gs.length = os.length /\ ∀ (i : Nat) (o : Oper) (g : G), os[i]? = some o -> gs[i]? = some g -> okG P N ops o g = true
 | [], [], _ => ⟨rfl, fun i o g h => by simp at h⟩
 | [], _ :: _, h => by simp [Y79] at h
 | _ :: _, [], h => by simp [Y79] at h
 | o :: os, g :: gs, h => by
   simp only [Y79, dQ] at h
   obtain ⟨h1, h2⟩ := Zw2 h.2
   refine ⟨by simp [h1], fun i o' g' e1 e2 => ?_⟩
   cases i with
   | zero => simp at e1 e2; subst e1; subst e2; exact h.1
   | succ i => exact h2 i o' g' (by simpa using e1) (by simpa using e2)
theorem Z9q : ∀ {gs : List G} {c : Nat}, Zaj tot gs c = true -> (∀ (i : Nat) (g : G), gs[i]? = some g -> g.op.names.2 ≠ 0 -> c <= g.op.names.1 /\ g.op.names.1 + g.op.names.2 <= tot) /\ c <= tot /\
 ∀ (i j : Nat) (gi gj : G), i < j -> gs[i]? = some gi -> gs[j]? = some gj -> gi.op.names.2 ≠ 0 -> gj.op.names.2 ≠ 0 -> gi.op.names.1 + gi.op.names.2 <= gj.op.names.1
 | [], c, h => by
   simp only [Zaj, eJ] at h
   exact ⟨fun i g e => by simp at e, h, fun i j gi gj _ e => by simp at e⟩
 | g :: gs, c, h => by
   simp only [Zaj, fN, dQ, beq_iff_eq] at h
   rcases h with ⟨h0, h⟩ | ⟨h0, h⟩
   . obtain ⟨q1, q2, q3⟩ := Z9q h
     refine ⟨fun i g' e j0 => ?_, q2, fun i j gi gj j1 e1 e2 n1 n2 => ?_⟩
     . cases i with
       | zero => simp at e; subst e; exact absurd h0 j0
       | succ i => exact q1 i g' (by simpa using e) j0
     . cases j with
       | zero => omega
       | succ j =>
         cases i with
         | zero => simp at e1; subst e1; exact absurd h0 n1
         | succ i => exact q3 i j gi gj (by omega) (by simpa using e1) (by simpa using e2) n1 n2
   . obtain ⟨q1, q2, q3⟩ := Z9q h
     refine ⟨fun i g' e j0 => ?_, by omega, fun i j gi gj j1 e1 e2 n1 n2 => ?_⟩
     . cases i with
       | zero => simp at e; subst e; omega
       | succ i => have := q1 i g' (by simpa using e) j0; omega
     . cases j with
       | zero => omega
       | succ j =>
         cases i with
         | zero => simp at e1; subst e1; have := q1 j gj (by simpa using e2) n2; omega
         | succ i => exact q3 i j gi gj (by omega) (by simpa using e1) (by simpa using e2) n1 n2
theorem Zlp {gs : List G} (h : Zaj tot gs 0 = true) : (∀ (i j : Nat) (gi gj : G), i ≠ j -> gs[i]? = some gi -> gs[j]? = some gj -> ∀ n b, X1 (n + gj.op.names.1) gj.op.names.2 b -> ¬ X1 (n + gi.op.names.1) gi.op.names.2 b) := by
 obtain ⟨q1, q2, q3⟩ := Z9q h
 intro i j gi gj j1 e1 e2 n b s1 s2
 simp only [X1] at s1 s2
 have n1 : gi.op.names.2 ≠ 0 := by omega
 have n2 : gj.op.names.2 ≠ 0 := by omega
 rcases Nat.lt_or_gt_of_ne j1 with hlt | j0
 . have := q3 i j gi gj hlt e1 e2 n1 n2; omega
 . have := q3 j i gj gi j0 e2 e1 n2 n1; omega
theorem Zc3 {m : Nat -> Nat} : ∀ {os : List Oper} {k : Nat}, Zj5 m os k = true -> ∀ (i : Nat) (o : Oper), os[i]? = some o -> m (k + i) = Zil m o /\ ∀ e ∈ o.after, Region.binds .any e = true -> e.on < k + i
 | [], k, _ => fun i o h => by simp at h
 | o :: os, k, h => by
   simp only [Zj5, dQ, beq_iff_eq, cY, fN, hO, eJ] at h
   intro i o' e
   cases i with
   | zero =>
     simp at e; subst e
     refine ⟨h.1.1, fun e he hb => ?_⟩
     rcases h.1.2 e (by simpa using he) with q | q
     . rw [hb] at q; cases q
     . exact q
   | succ i =>
     have := Zc3 h.2 i o' (by simpa using e)
     rw [show k + (i + 1) = k + 1 + i by omega]
     exact this
theorem Zd1 {sep : List (Opd × Opd)} {mask : Nat} {g : G} : ∀ {gs : List G} {k : Nat}, Zb2 sep mask g gs k = true -> ∀ (j : Nat) (gj : G), gs[j]? = some gj -> mask.testBit (k + j) = false -> Zh7 sep gj g = true
 | [], k, _ => fun j gj h => by simp at h
 | g' :: gs, k, h => by
   simp only [Zb2, dQ, fN] at h
   intro j gj e hm
   cases j with
   | zero =>
     simp at e; subst e
     rcases h.1 with q | q
     . rw [fM] at hm; rw [hm] at q; cases q
     . exact q
   | succ j => exact Zd1 h.2 j gj (by simpa using e) (by rw [show k + 1 + j = k + (j + 1) by omega]; exact hm)
theorem Zhj {sep : List (Opd × Opd)} {m : Nat -> Nat} : ∀ {gs pre : List G} {k : Nat}, pre.length = k -> Zip sep m pre gs k = true -> ∀ (j i : Nat) (gj gi : G), j < k + i -> gs[i]? = some gi -> (pre ++ gs)[j]? = some gj -> (m (k + i)).testBit j = false -> Zh7 sep gj gi = true
 | [], pre, k, _, _ => fun j i gj gi _ h => by simp at h
 | g :: gs, pre, k, hl, h => by
   simp only [Zip, dQ] at h
   intro j i gj gi j0 e1 e2 hm
   cases i with
   | zero =>
     simp at e1; subst e1
     have hj : j < pre.length := by omega
     rw [dZ hj] at e2
     exact Zd1 h.1 j gj e2 (by rw [dF]; simpa using hm)
   | succ i =>
     refine Zhj (pre := pre ++ [g]) (k := k + 1) (by simp [hl]) h.2 j i gj gi (by omega) (by simpa using e1) ?_ (by rw [show k + 1 + i = k + (i + 1) by omega]; exact hm)
     rw [gO]; exact e2
theorem Zlu : ∀ {gs : List G}, Zql gs = true -> ∀ (i : Nat) (g : G), gs[i]? = some g -> ∀ t, (.t t ∈ g.op.rdOpds \/ .t t ∈ g.op.mdOpds) -> ∀ (k : Nat) (g' : G), i <= k -> gs[k]? = some g' -> g'.op.dst ≠ some t
 | [], _ => fun i g h => by simp at h
 | g :: gs, h => by
   simp only [Zql, dQ, cY] at h
   intro i g0 e t ht k g' hk e'
   cases i with
   | zero =>
     simp at e; subst e
     have j0 : t ∈ Z4o (g.op.rdOpds ++ g.op.mdOpds) := Z1g (by
      rcases ht with ht | ht
      . exact dW.2 (.inl ht)
      . exact dW.2 (.inr ht))
     have := h.1 t j0 g' (dY e')
     simpa using this
   | succ i =>
     cases k with
     | zero => omega
     | succ k => exact Zlu h.2 i g0 (by simpa using e) t ht k g' (by omega) (by simpa using e')
theorem Zsn {sep : List (Opd × Opd)} {draw : Bool} {gs : List G} (h : Zs1 P N tot sep ops draw gs = true) :
 gs.length = ops.size /\ (∀ (i : Nat) (o : Oper) (g : G), ops[i]? = some o -> gs[i]? = some g -> okG P N ops o g = true) /\
 (∀ (i j : Nat) (gi gj : G), i ≠ j -> gs[i]? = some gi -> gs[j]? = some gj -> ∀ n b, X1 (n + gj.op.names.1) gj.op.names.2 b -> ¬ X1 (n + gi.op.names.1) gi.op.names.2 b) /\
 (∀ (i : Nat) (g : G), gs[i]? = some g -> g.op.names.2 ≠ 0 -> g.op.names.1 + g.op.names.2 <= tot) /\
 (draw = false -> sep = []) /\ (draw = true -> ∃ masks, RegOk tot gs sep masks /\ MaskOk ops masks) := by
 simp only [Zs1, dQ] at h
 obtain ⟨⟨h1, h2⟩, h3⟩ := h
 obtain ⟨g1, g2⟩ := Zw2 h1
 have j0 := Zlp h2
 have j2 : ∀ (i : Nat) (g : G), gs[i]? = some g -> g.op.names.2 ≠ 0 -> g.op.names.1 + g.op.names.2 <= tot := fun i g e j1 => ((Z9q h2).1 i g e j1).2
 refine ⟨by simpa using g1, fun i o g e1 e2 => g2 i o g (by simpa using e1) e2, j0, j2, fun hd => ?_, fun hd => ?_⟩
 . subst hd
   simpa using h3
 . subst hd
   simp only [if_true, dQ, fN, List.isEmpty_iff] at h3
   obtain ⟨⟨⟨c1, c2⟩, c3⟩, c4⟩ := h3
   refine ⟨Zxc (Region.before ops).toList, ⟨fun i g e => cY.1 c1 g (dY e), j0, j2, fun j i gj gi j3 e1 e2 hm => ?_, fun j1 => Zlu (c4.resolve_left j1)⟩, ⟨fun i o e => ?_, fun i o e => ?_⟩⟩
   . exact Zhj (pre := []) (k := 0) rfl c3 j i gj gi (by omega) e2 (by simpa using e1) (by simpa using hm)
   . have := (Zc3 c2 i o (by simpa using e)).1
     simpa using this
   . have := (Zc3 c2 i o (by simpa using e)).2
     simpa using this
end Go.Vm
namespace Go.Vm
open Go.RowKit
variable {P : Program} {C C' C'' : Rho} {S S' S'' : Nat -> Prop} {w w' w'' : World} {B N : Nat} {h : Hp} {E : Env} {tot base : Nat}
theorem Lo.shr {h h' : Hp} (l : Lo base h) (s : Shr base h h') : Lo base h' := fun b hb k e hx b' hb' => by
 obtain ⟨k0, e0, x0, n0⟩ := s b hb k e hx
 exact l b hb k0 e0 x0 b' (n0 b' hb')
def Zx : Out -> Exit -> Prop
 | .norm _, .normal => True
 | .exit id _, .exit id' => id = id'
 | .ret _, .ret => True
 | _, _ => False
structure Post (P : Program) (base B N : Nat) (C : Rho) (S : Nat -> Prop) (w : World) (out : Out) (e : Exit) (a' : Act) (w' : World) : Prop where
 ex : ∃ C' S', MvX base B C S w C' S' w' /\ SW P C' S' B N out.st a' w' /\ ∀ b, out.st.n <= b -> C' b = none
 same : Zx out e
theorem Post.before {out : Out} {e : Exit} {a' : Act} (m : MvX base B C S w C' S' w') (p : Post P base B N C' S' w' out e a' w'') : Post P base B N C S w out e a' w'' := by
 obtain ⟨C2, S2, M, T, f⟩ := p.ex
 exact ⟨⟨C2, S2, m.trans M, T, f⟩, p.same⟩
theorem Zao {c : Code} {Q Q' : Exit -> Act -> World -> Prop} (hq : ∀ e a w, Q e a w -> Q' e a w) : ∀ (n : Nat) (a : Act) (w : World), Code.rounds P c Q n a w -> Code.rounds P c Q' n a w
 | 0, a, w, h => h
 | n + 1, a, w, h => by
   rw [rounds_succ] at h ⊢
   refine wp_mono h (fun e a w q => ?_)
   cases e <;> first | exact Zao hq n a w q | exact hq _ _ _ q
theorem SW.drew {U : St} {a : Act} (T : SW P C S B N U a w) (e : w'.heap = w.heap) : SW P C S B N U a w' :=
 ⟨fun t => R.mono (fun _ _ h => h) (fun _ h => h) (Ext.of_heap e) (T.slot t), T.size, T.defers, T.heap.of_heap e, by rw [e]; exact T.le⟩
theorem Z71 {N0 : List Nat} (hN : EnvKeep E N0) (hE : EnvOk P E) (hm : P.follows .mixedOrders = true) {id : Nat} {ops : Array Oper} {draw : Bool} {gs : List G} {sep : List (Opd × Opd)} (ok : Zs1 P N tot sep ops draw gs = true) {U Uf : St} {a : Act} {nb : Nat} (T : SW P C S B N U a w) (f : ∀ b, U.n <= b -> C b = none) (hb : nb <= U.n)
 (e : Ze E tot gs U = some Uf) (hs : Zk5 Uf sep = true) (hkp : Z1y Uf N0 sep = true) : (Code.region id ops draw).wp P (Post P nb B N C S w (.norm { Uf with n := Uf.n + tot })) a w := by
 obtain ⟨g1, g2, g3, g4, g5, g6⟩ := Zsn ok
 have hQ : ∀ (w0 : World), MvX nb B C S w C S w0 -> ∀ C' S' a' w', MvX nb B C S w0 C' S' w' -> SW P C' S' B N Uf a' w' -> (∀ b, Uf.n + tot <= b -> C' b = none) -> Post P nb B N C S w (.norm { Uf with n := Uf.n + tot }) .normal a' w' :=
  fun w0 m0 C' S' a' w' M T' f' => ⟨⟨C', S', m0.trans M, ⟨T'.slot, T'.size, T'.defers, T'.heap, T'.le⟩, f'⟩, trivial⟩
 have fr : ∀ is, Fr C tot U.n gs is := fun is => ⟨fun i hi g hg b hb => f b (by simp only [X1] at hb; omega), fun b hb => f b (by omega)⟩
 cases draw with
 | false =>
   refine wp_region ?_
   have j0 : List.range ops.size = List.range' 0 gs.length := by rw [g1, List.range_eq_range']
   rw [j0]
   exact Zf2 hE g1 g2 g3 g4 gs 0 C S U a w rfl (by omega) T (fr _) hb e (hQ w MvX.refl)
 | true =>
   obtain ⟨j2, RO, MO⟩ := g6 rfl
   refine wp_region_any hm ?_
   have j1 : ∀ (rest : List G) (k : Nat) (O : St), gs.drop k = rest -> Ze E tot rest O = some Uf -> Runs E tot gs (List.range' k rest.length) O Uf := by
    intro rest
    induction rest with
    | nil =>
      intro k O _ e
      simp only [Ze, dM] at e
      subst e
      exact .nil _
    | cons g rest ih =>
      intro k O hd e
      obtain ⟨U1, h1, e1⟩ := Z6 e
      have j4 : gs[k]? = some g := by
       have := congrArg (·[0]?) hd
       simpa [eX] using this
      have j3 : gs.drop (k + 1) = rest := by
       have := congrArg List.tail hd
       simpa [List.tail_drop] using this
      rw [eF, List.range'_succ]
      exact .cons j4 (Zss h1) (ih (k + 1) U1 j3 e1)
   refine Y3w (base := nb) hN hE g1 g2 RO MO hs hkp ops.size (Array.replicate ops.size false) (List.range' 0 gs.length) C S U a _ (by simp) (List.pairwise_lt_range') (fun i => ?_) (fun i o ho hl => ?_) (by simp [g1]) (T.drew rfl) (fr _) hb (j1 gs 0 U rfl e) (hQ _ ⟨fun _ _ => rfl, fun _ h => h, Ext.of_heap rfl, ⟨rfl, rfl, rfl, dO _, fun _ _ => rfl⟩, fun _ h => .inl h⟩)
   . rw [List.mem_range'_1, g1]
     by_cases hi : i < ops.size <;> simp [Array.getD, hi]
   . have hi : i < ops.size := (eC.1 ho).1
     simp [Array.getD, hi] at hl
theorem Zfc {U : St} {N0 : List Nat} : ∀ {sep : List (Opd × Opd)}, Zxj sep = true -> Z1y U N0 sep = true
 | [], _ => rfl
 | p :: ps, h => by
   simp only [Zxj, gZ, dQ] at h
   have ih := Zfc (U := U) (N0 := N0) (sep := ps) h.2
   obtain ⟨p1, p2⟩ := p
   cases p1 with
   | k a => simpa [Z1y] using ih
   | t a => cases p2 with
     | t b => simpa [Z1y] using ih
     | k b => simp at h
theorem EnvKeep.none (hS : Z29 E) : EnvKeep E [] := ⟨fun f as h n r e b hb => by simp at hb, fun f as h n r e => (hS.1 f as h n r.1 r.2.1 r.2.2 e).2⟩
theorem Zri (hS : Z29 E) (N0 : List Nat) : EnvKeep (chk E N0) N0 := ⟨fun f as h n r e => (Zfa e).2, fun f as h n r e => (hS.1 f as h n r.1 r.2.1 r.2.2 (Zfa e).1).2⟩
theorem Y2d (hE : EnvOk P E) (N0 : List Nat) : EnvOk P (chk E N0) :=
 ⟨hE.call, hE.enter, fun f C S w B as xs h n rs h' n' e => hE.dc f C S w B as xs h n rs h' n' (Zfa e).1, fun f as h n r e => hE.dcEnter f as h n r (Zfa e).1, hE.df, hE.dfEnter⟩
theorem Zgz (hS : Z29 E) {L : List Nat} {c : ACode} {x : Code} (body : ∀ (C : Rho) (S : Nat -> Prop) (U : St) (a : Act) (w : World) (out : Out), Zj E c U = some out -> SW P C S B N U a w -> (∀ b, U.n <= b -> C b = none) -> U.base <= U.n -> Lo U.base U.h -> x.wp P (Post P U.base B N C S w out) a w) :
 ∀ (k : Nat) (C : Rho) (S : Nat -> Prop) (U : St) (a : Act) (w : World) (out : Out), Zd (Zj E c) L k U = some out -> SW P C S B N U a w -> (∀ b, U.n <= b -> C b = none) -> U.base <= U.n -> Lo U.base U.h -> Code.rounds P x (Post P U.base B N C S w out) k a w
 | 0, C, S, U, a, w, out, e, _, _, _, _ => by cases e
 | k + 1, C, S, U, a, w, out, e, T, f, hb, lo => by
   rw [rounds_succ]
   rcases Z9o e with ⟨U1, h1, e1⟩ | ⟨h1, j2⟩
   . have kx := Vb hS c U _ hb h1
     simp only [Out.st] at kx
     refine wp_mono (body C S U a w _ h1 T f hb lo) (fun ex a1 w1 p => ?_)
     obtain ⟨C1, S1, M1, T1, f1⟩ := p.ex
     have j0 := p.same
     cases ex <;> simp only [Zx] at j0
     simp only [Exit.then]
     obtain ⟨U2, h2, e2⟩ := Z6 e1
     simp only [Out.st] at T1 f1
     obtain ⟨C2, T2, s2, f2, b2, n2⟩ := Zeq T1 (by rw [kx.base]; exact lo.shr kx.shr) h2
     have j1 : U2.base = U.base := b2.trans kx.base
     have j3 : Lo U2.base U2.h := by
      obtain ⟨c1, c2, c3⟩ := Zay h2
      rw [j1]
      rw [kx.base] at c3
      exact (lo.shr kx.shr).shr c3
     have r := Zgz hS body k C2 S1 U2 a1 w1 out e2 T2 f2 (by rw [b2]; exact n2) j3
     rw [j1] at r
     have M2 : MvX U.base B C S w C2 S1 w1 := M1.trans ⟨fun b hb => s2 b (by rw [kx.base]; exact hb), fun _ h => h, Ext.refl _ _, Below.refl _ _, fun _ h => .inl h⟩
     exact Zao (fun ex a w q => q.before M2) k a1 w1 r
   . refine wp_mono (body C S U a w _ h1 T f hb lo) (fun ex a1 w1 p => ?_)
     have j0 := p.same
     cases ex <;> first | exact p | skip
     cases out with
     | norm U1 => exact absurd rfl (j2 U1)
     | _ => simp [Zx] at j0
theorem Z9s (hE : EnvOk P E) (hS : Z29 E) (hm : P.follows .mixedOrders = true) : ∀ (c : ACode) (x : Code), Yi P N c x = true -> ∀ (C : Rho) (S : Nat -> Prop) (U : St) (a : Act) (w : World) (out : Out), Zj E c U = some out -> SW P C S B N U a w -> (∀ b, U.n <= b -> C b = none) -> U.base <= U.n -> Lo U.base U.h ->
 x.wp P (Post P U.base B N C S w out) a w := by
 intro c
 induction c with
 | sk =>
   intro x ok C S U a w out e T f hb lo
   cases x <;> simp only [Yi, eH] at ok
   simp only [Zj, dM] at e
   subst e
   exact wp_skip ⟨⟨C, S, MvX.refl, T, f⟩, trivial⟩
 | rg tot dr gs =>
   intro x ok C S U a w out e T f hb lo
   cases x <;> simp only [Yi, eH] at ok
   obtain ⟨U1, h1, rfl⟩ := Z3w e
   exact Z71 (EnvKeep.none hS) hE hm ok T f hb h1 rfl rfl
 | rgs tot sep gs =>
   intro x ok C S U a w out e T f hb lo
   cases x <;> simp only [Yi, eH, dQ] at ok
   obtain ⟨U1, h1, rfl⟩ := Z3w e
   obtain ⟨U2, h2, h3⟩ := Z6 h1
   cases hs : Zk5 U2 sep with
   | false => rw [hs] at h3; cases h3
   | true =>
     rw [hs] at h3
     simp only [cond_true, dM] at h3
     subst h3
     exact Z71 (EnvKeep.none hS) hE hm ok.1 T f hb h2 hs (Zfc ok.2)
 | rgk tot sep keep gs =>
   intro x ok C S U a w out e T f hb lo
   cases x <;> simp only [Yi, eH] at ok
   obtain ⟨U1, h1, rfl⟩ := Z3w e
   obtain ⟨U2, h2, h3⟩ := Z6 h1
   cases hs : Zk5 U2 sep && Z1y U2 (Z0a U keep) sep with
   | false => rw [hs] at h3; cases h3
   | true =>
     rw [hs] at h3
     simp only [dQ] at hs
     simp only [cond_true, dM] at h3
     subst h3
     exact Z71 (Zri hS _) (Y2d hE _) hm ok T f hb h2 hs.1 hs.2
 | sq c1 c2 ih1 ih2 =>
   intro x ok C S U a w out e T f hb lo
   cases x <;> simp only [Yi, eH, dQ] at ok
   refine wp_seq ?_
   rcases Z9o e with ⟨U1, h1, e1⟩ | ⟨h1, j1⟩
   . have kx := Vb hS c1 U _ hb h1
     simp only [Out.st] at kx
     refine wp_mono (ih1 _ ok.1 C S U a w _ h1 T f hb lo) (fun ex a1 w1 p => ?_)
     obtain ⟨C1, S1, M1, T1, f1⟩ := p.ex
     have j0 := p.same
     cases ex <;> simp only [Zx] at j0
     simp only [Exit.then]
     have r := ih2 _ ok.2 C1 S1 U1 a1 w1 out e1 T1 f1 kx.n (by rw [kx.base]; exact lo.shr kx.shr)
     rw [kx.base] at r
     exact wp_mono r (fun ex a w q => q.before M1)
   . refine wp_mono (ih1 _ ok.1 C S U a w _ h1 T f hb lo) (fun ex a1 w1 p => ?_)
     have j0 := p.same
     cases ex <;> first | exact p | skip
     cases out with
     | norm U1 => exact absurd rfl (j1 U1)
     | _ => simp [Zx] at j0
 | ite cnd c1 c2 ih1 ih2 =>
   intro x ok C S U a w out e T f hb lo
   cases x <;> simp only [Yi, eH, dQ] at ok
   obtain ⟨⟨o1, o2⟩, o3⟩ := ok
   obtain ⟨q, hq, e1⟩ := Z6 e
   have r := Ze5 T.slot o1
   rw [Zoh hq] at r
   refine wp_cond (t := q) (R.v_inv r).1 ?_
   cases q with
   | true => exact ih1 _ o2 C S U a w out e1 T f hb lo
   | false => exact ih2 _ o3 C S U a w out e1 T f hb lo
 | bl id c ih =>
   intro x ok C S U a w out e T f hb lo
   cases x <;> simp only [Yi, eH, dQ, eJ] at ok
   obtain ⟨rfl, ok⟩ := ok
   refine wp_block ?_
   simp only [Zj] at e
   unfold blO at e
   split at e
   . rename_i id' U1 h1
     refine wp_mono (ih _ ok C S U a w _ h1 T f hb lo) (fun ex a1 w1 p => ?_)
     have j0 := p.same
     cases ex <;> simp only [Zx] at j0
     subst j0
     simp only [Exit.inBlock]
     split at e
     . rename_i j2
       simp only [dM] at e
       subst e
       rw [if_pos j2]
       exact ⟨p.ex, trivial⟩
     . rename_i j2
       simp only [dM] at e
       subst e
       rw [if_neg j2]
       exact p
   . rename_i j1
     refine wp_mono (ih _ ok C S U a w _ e T f hb lo) (fun ex a1 w1 p => ?_)
     have j0 := p.same
     cases ex <;> first | exact p | skip
     cases out with
     | exit id' U1 => exact absurd e (j1 id' U1)
     | _ => simp [Zx] at j0
 | lp L c ih =>
   intro x ok C S U a w out e T f hb lo
   cases x <;> simp only [Yi, eH] at ok
   obtain ⟨U1, h1, e1⟩ := Z6 e
   obtain ⟨C2, T2, s2, f2, b2, n2⟩ := Zeq T lo h1
   obtain ⟨c1, c2, c3⟩ := Zay h1
   have r := Zgz hS (fun C S U a w out => ih _ ok C S U a w out) rounds C2 S U1 a w out e1 T2 f2 (by rw [b2]; exact n2) (by rw [b2]; exact lo.shr c3)
   rw [b2] at r
   have M2 : MvX U.base B C S w C2 S w := ⟨s2, fun _ h => h, Ext.refl _ _, Below.refl _ _, fun _ h => .inl h⟩
   exact wp_loop_rounds rounds (Zao (fun ex a w q => q.before M2) _ a w r)
 | xt id =>
   intro x ok C S U a w out e T f hb lo
   cases x <;> simp only [Yi, eH, eJ] at ok
   subst ok
   simp only [Zj, dM] at e
   subst e
   exact wp_exit ⟨⟨C, S, MvX.refl, T, f⟩, rfl⟩
 | rt =>
   intro x ok C S U a w out e T f hb lo
   cases x <;> simp only [Yi, eH] at ok
   simp only [Zj, dM] at e
   subst e
   exact wp_ret ⟨⟨C, S, MvX.refl, T, f⟩, trivial⟩
 | no why =>
   intro x ok C S U a w out e T f hb lo
   cases e
theorem Zvz (hE : EnvOk P E) (hS : Z29 E) (hm : P.follows .mixedOrders = true) : ∀ (c : ACode) (x : Code), Yi P N c x = true -> Zq2 c = true -> ∀ (nb : Nat) (C : Rho) (S : Nat -> Prop) (U : St) (a : Act) (w : World) (out : Out), Zj E c U = some out -> SW P C S B N U a w -> (∀ b, U.n <= b -> C b = none) -> nb <= U.n -> U.base <= U.n ->
 x.wp P (Post P nb B N C S w out) a w := by
 intro c
 induction c with
 | sk =>
   intro x ok fl nb C S U a w out e T f hn hb
   cases x <;> simp only [Yi, eH] at ok
   simp only [Zj, dM] at e
   subst e
   exact wp_skip ⟨⟨C, S, MvX.refl, T, f⟩, trivial⟩
 | rg tot dr gs =>
   intro x ok fl nb C S U a w out e T f hn hb
   cases x <;> simp only [Yi, eH] at ok
   obtain ⟨U1, h1, rfl⟩ := Z3w e
   exact Z71 (EnvKeep.none hS) hE hm ok T f hn h1 rfl rfl
 | rgs tot sep gs =>
   intro x ok fl nb C S U a w out e T f hn hb
   cases x <;> simp only [Yi, eH, dQ] at ok
   obtain ⟨U1, h1, rfl⟩ := Z3w e
   obtain ⟨U2, h2, h3⟩ := Z6 h1
   cases hs : Zk5 U2 sep with
   | false => rw [hs] at h3; cases h3
   | true =>
     rw [hs] at h3
     simp only [cond_true, dM] at h3
     subst h3
     exact Z71 (EnvKeep.none hS) hE hm ok.1 T f hn h2 hs (Zfc ok.2)
 | rgk tot sep keep gs =>
   intro x ok fl nb C S U a w out e T f hn hb
   cases x <;> simp only [Yi, eH] at ok
   obtain ⟨U1, h1, rfl⟩ := Z3w e
   obtain ⟨U2, h2, h3⟩ := Z6 h1
   cases hs : Zk5 U2 sep && Z1y U2 (Z0a U keep) sep with
   | false => rw [hs] at h3; cases h3
   | true =>
     rw [hs] at h3
     simp only [dQ] at hs
     simp only [cond_true, dM] at h3
     subst h3
     exact Z71 (Zri hS _) (Y2d hE _) hm ok T f hn h2 hs.1 hs.2
 | sq c1 c2 ih1 ih2 =>
   intro x ok fl nb C S U a w out e T f hn hb
   cases x <;> simp only [Yi, eH, dQ] at ok
   simp only [Zq2, dQ] at fl
   refine wp_seq ?_
   rcases Z9o e with ⟨U1, h1, e1⟩ | ⟨h1, j1⟩
   . have kx := Vb hS c1 U _ hb h1
     have kn := Z86 hS c1 U _ fl.1 hb h1
     simp only [Out.st] at kx kn
     refine wp_mono (ih1 _ ok.1 fl.1 nb C S U a w _ h1 T f hn hb) (fun ex a1 w1 p => ?_)
     obtain ⟨C1, S1, M1, T1, f1⟩ := p.ex
     have j0 := p.same
     cases ex <;> simp only [Zx] at j0
     simp only [Exit.then]
     have r := ih2 _ ok.2 fl.2 nb C1 S1 U1 a1 w1 out e1 T1 f1 (eI hn kn) kx.n
     exact wp_mono r (fun ex a w q => q.before M1)
   . refine wp_mono (ih1 _ ok.1 fl.1 nb C S U a w _ h1 T f hn hb) (fun ex a1 w1 p => ?_)
     have j0 := p.same
     cases ex <;> first | exact p | skip
     cases out with
     | norm U1 => exact absurd rfl (j1 U1)
     | _ => simp [Zx] at j0
 | ite cnd c1 c2 ih1 ih2 =>
   intro x ok fl nb C S U a w out e T f hn hb
   cases x <;> simp only [Yi, eH, dQ] at ok
   obtain ⟨⟨o1, o2⟩, o3⟩ := ok
   simp only [Zq2, dQ] at fl
   obtain ⟨q, hq, e1⟩ := Z6 e
   have r := Ze5 T.slot o1
   rw [Zoh hq] at r
   refine wp_cond (t := q) (R.v_inv r).1 ?_
   cases q with
   | true => exact ih1 _ o2 fl.1 nb C S U a w out e1 T f hn hb
   | false => exact ih2 _ o3 fl.2 nb C S U a w out e1 T f hn hb
 | bl id c ih =>
   intro x ok fl nb C S U a w out e T f hn hb
   cases x <;> simp only [Yi, eH, dQ, eJ] at ok
   obtain ⟨rfl, ok⟩ := ok
   refine wp_block ?_
   simp only [Zj] at e
   unfold blO at e
   split at e
   . rename_i id' U1 h1
     refine wp_mono (ih _ ok fl nb C S U a w _ h1 T f hn hb) (fun ex a1 w1 p => ?_)
     have j0 := p.same
     cases ex <;> simp only [Zx] at j0
     subst j0
     simp only [Exit.inBlock]
     split at e
     . rename_i j2
       simp only [dM] at e
       subst e
       rw [if_pos j2]
       exact ⟨p.ex, trivial⟩
     . rename_i j2
       simp only [dM] at e
       subst e
       rw [if_neg j2]
       exact p
   . rename_i j1
     refine wp_mono (ih _ ok fl nb C S U a w _ e T f hn hb) (fun ex a1 w1 p => ?_)
     have j0 := p.same
     cases ex <;> first | exact p | skip
     cases out with
     | exit id' U1 => exact absurd e (j1 id' U1)
     | _ => simp [Zx] at j0
 | lp L c ih =>
   intro x ok fl
   cases fl
 | xt id =>
   intro x ok fl nb C S U a w out e T f hn hb
   cases x <;> simp only [Yi, eH, eJ] at ok
   subst ok
   simp only [Zj, dM] at e
   subst e
   exact wp_exit ⟨⟨C, S, MvX.refl, T, f⟩, rfl⟩
 | rt =>
   intro x ok fl nb C S U a w out e T f hn hb
   cases x <;> simp only [Yi, eH] at ok
   simp only [Zj, dM] at e
   subst e
   exact wp_ret ⟨⟨C, S, MvX.refl, T, f⟩, trivial⟩
 | no why =>
   intro x ok fl nb C S U a w out e T f hn hb
   cases e
def Z9y (P : Program) : List ResultVar -> List RVar -> Bool
 | [], [] => true
 | .tmp t :: xs, .t u :: ys => decide (t = u) && Z9y P xs ys
 | .cell a t :: xs, .cell b n g :: ys => decide (a = b) && decide (n = P.cellsOf t) && decide (g = Zcu P t) && Zcn P t && Z9y P xs ys
 | _, _ => false
def Zr1 (P : Program) (f : Nat) (fn : AFn) : Bool :=
 match P.funcs[f]? with
 | some F => (match F.body with
   | some c => Yi P F.ntmps fn.code c
   | none => false) && Z9y P F.results.toList fn.res && (F.name != "runtime.NumGoroutine")
 | none => false
def Zw8 (tmps : Array Value) : ResultVar -> Sem Value
 | .tmp t => pure (tmps.getD t undef)
 | .cell a t => do loadVar t (<- asAddr (tmps.getD a undef))
theorem Zwz (H : HR P C S w B h) {U : St} (hσ : U.h = h) {tmps : Array Value} (hs : ∀ t, R P C S w (U.s t) (tmps.getD t undef)) : ∀ {rs : List ResultVar} {rv : List RVar} {as : List A}, Z9y P rs rv = true -> Z7r U rv = some as ->
 ∃ vs, (rs.mapM (Zw8 tmps)).run P w = .ok vs w /\ RL P C S w as vs
 | [], rv, as, ok, e => by
   cases rv with
   | nil => simp only [Z7r, dM] at e; subst e; exact ⟨[], rfl, .nil⟩
   | cons r rv => simp [Z9y] at ok
 | r :: rs, rv, as, ok, e => by
   cases rv with
   | nil => cases r <;> simp [Z9y] at ok
   | cons v rv =>
     obtain ⟨x, hx, e1⟩ := Z6 e
     obtain ⟨xs, j6, e2⟩ := Z6 e1
     simp only [dM] at e2
     subst e2
     have one : Z9y P rs rv = true /\ ∃ y, (Zw8 tmps r).run P w = .ok y w /\ R P C S w x y := by
      cases r with
      | tmp t =>
        cases v with
        | t u =>
          simp only [Z9y, dQ, eJ] at ok
          obtain ⟨rfl, ok⟩ := ok
          simp only [Zxi, dM] at hx
          subst hx
          exact ⟨ok, _, rfl, hs t⟩
        | cell b n g => simp [Z9y] at ok
      | cell a t =>
        cases v with
        | t u => simp [Z9y] at ok
        | cell b n g =>
          simp only [Z9y, dQ, eJ] at ok
          obtain ⟨⟨⟨⟨rfl, rfl⟩, rfl⟩, hT⟩, ok⟩ := ok
          obtain ⟨⟨row, j⟩, j1, hx⟩ := Z6 hx
          subst hσ
          obtain ⟨k, o', j3, j0⟩ := Zdt H j1 (hs a)
          obtain ⟨y, hy, hr⟩ := Zpq hT j0 hx
          refine ⟨ok, y, ?_, hr⟩
          simp only [Zw8, j3, asAddr, dE]
          exact hy
     obtain ⟨j5, y, hy, hr⟩ := one
     obtain ⟨ys, j4, j2⟩ := Zwz H hσ hs j5 j6
     refine ⟨y :: ys, ?_, .cons hr j2⟩
     rw [gL]
     simp only [dE, hy, cX, j4]
     rfl
theorem Zal (H : HR P C S w B h) {U : St} (hσ : U.h = h) {tmps : Array Value} (hs : ∀ t, R P C S w (U.s t) (tmps.getD t undef)) {F : Func} {rv : List RVar} {as : List A} (ok : Z9y P F.results.toList rv = true) (e : Z7r U rv = some as) :
 ∃ vs, (results F tmps).run P w = .ok (Zs2 vs) w /\ RL P C S w as vs := by
 obtain ⟨vs, h1, h2⟩ := Zwz H hσ hs ok e
 refine ⟨vs, ?_, h2⟩
 have h0 : results F tmps = (F.results.mapM (Zw8 tmps) >>= fun vs => pure (if h : vs.size = 1 then vs[0] else .tuple vs)) := by
  unfold results
  congr 1
 rw [h0]
 rw [Array.mapM_eq_mapM_toList]
 simp only [dE]
 have : (Sem.run P (List.toArray <$> F.results.toList.mapM (Zw8 tmps)) w) = .ok vs.toArray w := by
  rw [map_eq_pure_bind, dE, h1]
  rfl
 rw [this]
 simp only [cX]
 show Result.ok _ w = _
 congr 1
 match vs with
 | [] => rfl
 | [x] => rfl
 | x :: y :: vs => simp [Zs2]
theorem Zpg {as : List A} {xs : List Value} (r : RL P C S w as xs) (n : Nat) (t : Nat) : R P C S w (slots as t) ((xs.toArray ++ Array.replicate n undef).getD t undef) := by
 unfold slots
 rw [fV, gK]
 by_cases ht : t < as.length
 . have h2 : t < xs.length := by rw [r.len]; exact ht
   rw [dS ht, fX (by simpa using h2)]
   simp only [dD, gM, dS h2]
   exact r.at_ t _ _ (dS ht) (dS h2)
 . rw [eY (by omega)]
   have : ((xs.toArray ++ Array.replicate n undef)[t]?).getD undef = undef := by
    rw [Array.getElem?_append_right (by simp; have := r.len; omega)]
    simp only [Array.getElem?_replicate]
    split <;> rfl
   rw [this]
   exact .und
theorem Lo.of_HR {n : Nat} (H : HR P C S w B h) (f : ∀ b, n <= b -> C b = none) : Lo n h := by
 intro b hb k hk hx b' j2
 rcases H.at_ b k hk with ⟨k', sz, _, hB⟩ | ⟨_, hr, _⟩
 . obtain ⟨cs, _, _, j1⟩ := hB.here
   rw [Zbw] at j2
   obtain ⟨row, j3, x, hx, j0⟩ := j2
   obtain ⟨i, hi⟩ := eU j3
   obtain ⟨j, hj⟩ := eU hx
   obtain ⟨y, _, hr⟩ := j1 i row j x hi hj
   have j5 : C b' ≠ none := by
    have j4 := Yz.1 (hB.rows i row hi).2 x hx
    cases x with
    | fn f caps => exact Zb6 hr b' (.inr j0)
    | ref ty b0 off len cap ex => exact Zb6 hr b' (.inl (by simp [Yb, Yk] at j0; simp [nmX, Yk, j0]))
    | ptr b0 i j => exact Zb6 hr b' (.inl (by simp [Yb, Yk] at j0; simp [nmX, Yk, j0]))
    | agg cs => simp [Z1c] at j4
    | tup cs => simp [Z1c] at j4
    | _ => simp [Yb, Yk] at j0
   rcases Nat.lt_or_ge b' n with h | h
   . exact h
   . exact absurd (f b' h) j5
 . rw [hr] at j2; simp [Zn] at j2
theorem Zjr (hE : EnvOk P E) (hS : Z29 E) (hm : P.follows .mixedOrders = true) {f : Nat} {fn : AFn} (ok : Zr1 P f fn = true) {as : List A} {xs : List Value} {n bs : Nat} (hbs : bs = n \/ (bs = 0 /\ Zq2 fn.code = true)) (r : RL P C S w as xs) (H : HR P C S w B h) (hB : B <= w.heap.size) (hf : ∀ b, n <= b -> C b = none)
 {U : St} (e : Zj E fn.code ⟨slots as, h, n, bs⟩ = some (.norm U) \/ Zj E fn.code ⟨slots as, h, n, bs⟩ = some (.ret U)) {vs : List A} (hv : Z7r U fn.res = some vs) :
 Calls P f xs.toArray w fun
  | .returned v, w' => ∃ us, v = Zs2 us /\ ∃ C' S', MvX n B C S w C' S' w' /\ HR P C' S' w' B U.h /\ RL P C' S' w' vs us /\ ∀ b, U.n <= b -> C' b = none
  | _, _ => False := by
 unfold Zr1 at ok
 split at ok
 . rename_i F hF
   simp only [dQ] at ok
   obtain ⟨⟨o1, o2⟩, o3⟩ := ok
   split at o1
   . rename_i c hc
     refine calls_of_wp hF hc ?_
     have T : SW P C S B F.ntmps ⟨slots as, h, n, bs⟩ { tmps := xs.toArray ++ Array.replicate (F.ntmps - xs.toArray.size) undef, defers := [] } w :=
      ⟨fun t => Zpg r _ t, by simp; omega, rfl, H, hB⟩
     have go : ∀ out, Zj E fn.code ⟨slots as, h, n, bs⟩ = some out -> out.st = U -> (∀ ex, Zx out ex -> ex = .normal \/ ex = .ret) -> c.wp P (bodyPost P F fun
      | .returned v, w' => ∃ us, v = Zs2 us /\ ∃ C' S', MvX n B C S w C' S' w' /\ HR P C' S' w' B U.h /\ RL P C' S' w' vs us /\ ∀ b, U.n <= b -> C' b = none
      | _, _ => False) { tmps := xs.toArray ++ Array.replicate (F.ntmps - xs.toArray.size) undef, defers := [] } w := by
      intro out ho j3 j5
      have j1 : c.wp P (Post P n B F.ntmps C S w out) { tmps := xs.toArray ++ Array.replicate (F.ntmps - xs.toArray.size) undef, defers := [] } w := by
       rcases hbs with rfl | ⟨rfl, j4⟩
       . exact Z9s hE hS hm fn.code c o1 C S _ _ w out ho T hf (dO _) (Lo.of_HR H hf)
       . exact Zvz hE hS hm fn.code c o1 j4 n C S _ _ w out ho T hf (dO _) (dG _)
      refine wp_mono j1 (fun ex a1 w1 p => ?_)
      obtain ⟨C1, S1, M1, T1, f1⟩ := p.ex
      rw [j3] at T1 f1
      obtain ⟨us, j0, j2⟩ := Zal T1.heap rfl T1.slot (F := F) o2 hv
      rcases j5 ex p.same with rfl | rfl
      . exact ⟨T1.defers, _, j0, us, rfl, C1, S1, M1, T1.heap, j2, f1⟩
      . exact ⟨T1.defers, _, j0, us, rfl, C1, S1, M1, T1.heap, j2, f1⟩
     rcases e with e | e
     . exact go _ e rfl (fun ex hx => by cases ex <;> simp [Zx] at hx; exact .inl rfl)
     . exact go _ e rfl (fun ex hx => by cases ex <;> simp [Zx] at hx; exact .inr rfl)
   . cases o1
 . cases ok
theorem Zci {f : Nat} {fn : AFn} (ok : Zr1 P f fn = true) : Z9z P f := by
 unfold Zr1 at ok
 split at ok
 . rename_i F hF
   simp only [dQ] at ok
   obtain ⟨⟨o1, o2⟩, o3⟩ := ok
   split at o1
   . rename_i c hc
     refine ⟨F, hF, ?_, by rw [hc]; rfl⟩
     simpa using o3
   . cases o1
 . cases ok
structure ProgOk (P : Program) (p : Prog) : Prop where
 orders : P.follows .mixedOrders = true
 fn : ∀ f fn, p.fn f = some fn -> Zr1 P f fn = true
 dn : ∀ f fn, p.dn f = some fn -> Zr1 P f fn = true
 ext : ∀ f F, p.ext f = some F -> Z9f P F f /\ Z9z P f
 ins : ∀ f e, p.ins f = some e -> Y75 P (Zxg e) f /\ Z9z P f
 hx : ∀ f F, p.hx f = some F -> Y75 P F f /\ Z9z P f
 fl : ∀ f fn, p.fl f = some fn -> Zr1 P f fn = true /\ Zq2 fn.code = true
theorem HR.empty (hS : ∀ k, S k -> k < w.heap.size) (hG : GlobOk P S w) : HR P Yy S w w.heap.size (fun _ => none) :=
 ⟨fun b blk e => (by cases e), fun b b' k sz sz' blk blk' e => (by cases e), hS, hG⟩
theorem ProgOk.dfn {p : Prog} (O : ProgOk P p) (f : Nat) (fn : AFn) (h : p.dfn f = some fn) : Zr1 P f fn = true := by
 unfold Prog.dfn at h
 split at h
 . rename_i fn' h'
   cases h
   exact O.dn f fn h'
 . exact O.fn f fn h
theorem ProgOk.shr {p : Prog} (O : ProgOk P p) (d : Nat) : Z29 ⟨den p d, dcl p d, dfl p d⟩ := Zf9 p (fun f fn h => (O.fl f fn h).2) d
theorem Zfd {p : Prog} (O : ProgOk P p) : ∀ d, EnvOk P ⟨den p d, dcl p d, dfl p d⟩
 | 0 => ⟨fun f S w as rs xs e => (by simp [den] at e), fun f as rs e => (by simp [den] at e), fun f C S w B as xs h n rs h' n' e => (by simp [dcl] at e), fun f as h n r e => (by simp [dcl] at e), fun f C S w B as xs h n rs h' n' e => (by simp [dfl] at e), fun f as h n r e => (by simp [dfl] at e)⟩
 | d + 1 => by
   have ih := Zfd O d
   refine ⟨fun f S w as rs xs e hS hG r => ?_, fun f as rs e => ?_, fun f C S w B as xs h n rs h' n' e H hB r hf => ?_, fun f as h n r e => ?_, fun f C S w B as xs h n rs h' n' e H hB r hf => ?_, fun f as h n r e => ?_⟩
   . simp only [den] at e
     split at e
     . rename_i F hF
       exact (O.ext f F hF).1 S w as rs xs e hS hG r
     . split at e
       . cases e
       . rename_i fn j0
         obtain ⟨U, ho, hk⟩ := Zbj e
         obtain ⟨vs, j1, h1⟩ := Z6 hk
         refine (Zjr ih (O.shr d) O.orders (O.fn f fn j0) (.inl rfl) r (HR.empty hS hG) (dO _) (fun b _ => rfl) ho j1).mono (fun en w1 he => ?_)
         cases en with
         | returned v =>
           obtain ⟨us, rfl, C1, S1, M1, H1, r1, f1⟩ := he
           exact Zaq rfl H1 r1 h1 M1.sub M1.back M1.below M1.ext
         | _ => exact he
   . simp only [den] at e
     split at e
     . rename_i F hF
       exact (O.ext f F hF).2
     . split at e
       . cases e
       . rename_i fn j0
         exact Zci (O.fn f fn j0)
   . simp only [dcl] at e
     split at e
     . rename_i e1 j2
       exact (O.ins f e1 j2).1 C S w B as xs h n rs h' n' e H hB r hf
     . split at e
       . rename_i F hF
         obtain ⟨q, hq, e1⟩ := Z6 e
         split at e1
         . simp only [dM] at e1
           subst e1
           exact (O.hx f F hF).1 C S w B as xs h n rs h' n' hq H hB r hf
         . cases e1
       . split at e
         . cases e
         . rename_i fn j0
           obtain ⟨U, ho, hk⟩ := Zbj e
           obtain ⟨vs, j1, h1⟩ := Z6 hk
           simp only [dM, dV] at h1
           obtain ⟨rfl, rfl, rfl⟩ := h1
           have kx : KeepsX ⟨slots as, h, n, n⟩ U := by
            rcases ho with ho | ho
            . exact Vb (O.shr d) _ _ _ (dO _) ho
            . exact Vb (O.shr d) _ _ _ (dO _) ho
           refine (Zjr ih (O.shr d) O.orders (O.dfn f fn j0) (.inl rfl) r H hB hf ho j1).mono (fun en w1 he => ?_)
           cases en with
           | returned v =>
             obtain ⟨us, rfl, C1, S1, M1, H1, r1, f1⟩ := he
             refine ⟨by have := kx.base; have := kx.n; simp only at *; omega, C1, S1, ⟨fun b l hl => ?_, M1.sub, M1.ext, M1.below, fun b hb hn => ?_, M1.back⟩, H1, R.pack r1, f1⟩
             . rcases Nat.lt_or_ge b n with h | h
               . rw [M1.same b h]; exact hl
               . rw [hf b h] at hl; cases hl
             . rw [M1.same b (by omega)]; exact hb
           | _ => exact he
   . simp only [dcl] at e
     split at e
     . rename_i e1 j2
       exact (O.ins f e1 j2).2
     . split at e
       . rename_i F hF
         exact (O.hx f F hF).2
       . split at e
         . cases e
         . rename_i fn j0
           exact Zci (O.dfn f fn j0)
   . simp only [dfl] at e
     split at e
     . cases e
     . rename_i fn j0
       obtain ⟨U, ho, hk⟩ := Zbj e
       obtain ⟨vs, j1, h1⟩ := Z6 hk
       simp only [dM, dV] at h1
       obtain ⟨rfl, rfl, rfl⟩ := h1
       have kn : n <= U.n := by
        rcases ho with ho | ho
        . exact Z86 (O.shr d) _ _ _ (O.fl f fn j0).2 (dG _) ho
        . exact Z86 (O.shr d) _ _ _ (O.fl f fn j0).2 (dG _) ho
       refine (Zjr ih (O.shr d) O.orders (O.fl f fn j0).1 (.inr ⟨rfl, (O.fl f fn j0).2⟩) r H hB hf ho j1).mono (fun en w1 he => ?_)
       cases en with
       | returned v =>
         obtain ⟨us, rfl, C1, S1, M1, H1, r1, f1⟩ := he
         refine ⟨kn, C1, S1, ⟨fun b l hl => ?_, M1.sub, M1.ext, M1.below, fun b hb hn => ?_, M1.back⟩, H1, R.pack r1, f1⟩
         . rcases Nat.lt_or_ge b n with h | h
           . rw [M1.same b h]; exact hl
           . rw [hf b h] at hl; cases hl
         . rw [M1.same b (by omega)]; exact hb
       | _ => exact he
   . simp only [dfl] at e
     split at e
     . cases e
     . rename_i fn j0
       exact Zci (O.fl f fn j0).1
theorem Zti {p : Prog} (O : ProgOk P p) {d f : Nat} {as rs : List A} {xs : List Value} {w : World} (e : den p d f as = some rs) (hS : ∀ k, S k -> k < w.heap.size) (hG : GlobOk P S w) (r : RL P Yy S w as xs) :
 Calls P f xs.toArray w fun | .returned v, w' => Res P S w rs v w' | _, _ => False := (Zfd O d).call f S w as rs xs e hS hG r
end Go.Vm
namespace Go.Vm
open Go.RowKit Go.ChangeShapes Go.WideShapes
variable {P : Program}
abbrev Zyd (W : World) : Nat -> Prop := fun k => k < W.heap.size
structure Rdr {V : Type} (P : Program) (t : TypeId) (enc : V -> List A) (ok : V -> Prop) : Prop where
 rd : ∀ {H : Type} (e : TypeId × Value -> H) (W : World) (fuel : Nat) (cs : List Value) (x : DataW H × List MemPlace), DataW.trod e P W 0 (fun _ => true) true fuel t cs = some x -> ∃ y : V, ok y /\ RL P Yy (Zyd W) W (enc y) cs
 len : ∀ y, (enc y).length = P.cellsOf t
 cell : ∀ y, Zi (enc y) = true
theorem Rdr.int {t : TypeId} {k : IntKind} (ht : P.underlying t = some (.int k)) (h1 : P.cellsOf t = 1) : Rdr P t (fun n : Int => [.v (.int k n)]) (fun n => k.min <= n /\ n <= k.max) :=
 ⟨fun e W fuel cs x h => by
  obtain ⟨n, rfl, _, hw⟩ := DataW.trod_int ht h
  simp only [Lit.wf, dQ, eJ] at hw
  exact ⟨n, hw, .cons (.v _ rfl) .nil⟩, fun _ => h1.symm, fun _ => rfl⟩
theorem Rdr.bool {t : TypeId} (ht : P.underlying t = some .bool) (h1 : P.cellsOf t = 1) : Rdr P t (fun b : Bool => [.v (.bool b)]) (fun _ => True) :=
 ⟨fun e W fuel cs x h => by
  obtain ⟨b, rfl, _⟩ := DataW.trod_bool ht h
  exact ⟨b, trivial, .cons (.v _ rfl) .nil⟩, fun _ => h1.symm, fun _ => rfl⟩
theorem Rdr.str {t : TypeId} (ht : P.underlying t = some .string) (h1 : P.cellsOf t = 1) : Rdr P t (fun s : ByteArray => [.v (.string s)]) (fun s => s.size <= maxLen) :=
 ⟨fun e W fuel cs x h => by
  obtain ⟨s, rfl, _, hs⟩ := DataW.trod_string ht h
  exact ⟨s, hs, .cons (.v _ rfl) .nil⟩, fun _ => h1.symm, fun _ => rfl⟩
theorem Zs8 {w : World} {a : Addr} : ∀ (n : Nat) {cs : List Value}, w.cells? 0 a n = some cs -> cs.length = n /\ ∀ j, j < n -> w.cell? (a.add j) = cs[j]? := by
 intro n cs h
 unfold World.cells? at h
 rw [if_pos (dG _)] at h
 have j0 : ∀ (l : List Nat) (cs : List Value), l.mapM (fun i => w.cell? (a.add i)) = some cs -> cs.length = l.length /\ ∀ j, j < l.length -> w.cell? (a.add (l.getD j 0)) = cs[j]? := by
  intro l
  induction l with
  | nil => intro cs h; simp at h; subst h; exact ⟨rfl, fun j hj => by simp at hj⟩
  | cons i l ih =>
    intro cs h
    rw [gL] at h
    cases hv : w.cell? (a.add i) with
    | none => rw [hv] at h; cases h
    | some v =>
      rw [hv] at h
      cases hvs : l.mapM (fun i => w.cell? (a.add i)) with
      | none => simp [hvs] at h
      | some vs =>
        simp [hvs] at h
        subst h
        obtain ⟨q1, q2⟩ := ih vs hvs
        refine ⟨by simp [q1], fun j hj => ?_⟩
        cases j with
        | zero => simpa using hv
        | succ j => simpa using q2 j (by simpa using hj)
 obtain ⟨q1, q2⟩ := j0 _ _ h
 refine ⟨by simpa using q1, fun j hj => ?_⟩
 have := q2 j (by simpa using hj)
 simpa [fV, fY hj] using this
theorem Zeb {V : Type} {Q : Nat -> V -> Prop} : ∀ (n : Nat), (∀ i, i < n -> ∃ x, Q i x) -> ∃ xs : List V, xs.length = n /\ ∀ i x, xs[i]? = some x -> Q i x
 | 0, _ => ⟨[], rfl, fun i x h => by simp at h⟩
 | n + 1, h => by
   obtain ⟨xs, h1, h2⟩ := Zeb n (fun i hi => h i (by omega))
   obtain ⟨x, hx⟩ := h n (by omega)
   refine ⟨xs ++ [x], by simp [h1], fun i y hy => ?_⟩
   by_cases hi : i < xs.length
   . rw [dZ hi] at hy; exact h2 i y hy
   . rw [eA (by omega)] at hy
     have : i - xs.length = 0 := by
      rcases Nat.eq_zero_or_pos (i - xs.length) with q | q
      . exact q
      . rw [eY (by simp; omega)] at hy; cases hy
     rw [this] at hy
     simp at hy
     subst hy
     have : i = n := by omega
     subst this
     exact hx
theorem Rdr.slice {V : Type} {t e : TypeId} {enc : V -> List A} {ok : V -> Prop} (ht : P.underlying t = some (.slice e)) (h1 : P.cellsOf t = 1) (hpos : 0 < P.cellsOf e) (r : Rdr P e enc ok) : Rdr P t (fun xs : List V => [.lit e (xs.map enc)]) (fun xs => xs.length <= maxLen /\ ∀ x ∈ xs, ok x) := by
 refine ⟨fun en W fuel cs x h => ?_, fun _ => h1.symm, fun _ => rfl⟩
 rcases DataW.trod_slice ht h with ⟨rfl, _⟩ | ⟨a, len, cap, elems, rest, n, _, rfl, _, _, j8, j9, ja, j5, _⟩
 . refine ⟨[], ⟨by simp, fun x hx => by simp at hx⟩, .cons ?_ .nil⟩
   exact .lit e [] none 0 (fun _ _ => undef) (dO _) (fun i row h => by simp at h) (fun i row j x h => by simp at h) (fun i row j x h => by simp at h)
 . -- an element
   have one : ∀ i, i < len -> ∃ y : V, ok y /\ ∃ j3, RL P Yy (Zyd W) W (enc y) j3 /\ j3.length = P.cellsOf e /\ ∀ j, j < P.cellsOf e -> W.cell? ((a.add (i * P.cellsOf e)).add j) = j3[j]? := by
    intro i hi
    have hg := j5 i hi
    cases hc : W.cells? 0 (a.add (i * P.cellsOf e)) (P.cellsOf e) with
    | none =>
      rw [hc] at hg
      simp only [Option.bind_none] at hg
      rw [dS (by omega)] at hg
      cases hg
    | some j3 =>
      rw [hc] at hg
      simp only [gD] at hg
      obtain ⟨q1, q2⟩ := Zs8 _ hc
      rw [dS (by omega)] at hg
      obtain ⟨y, hy, hr⟩ := r.rd en W n j3 _ hg
      exact ⟨y, hy, j3, hr, q1, q2⟩
   obtain ⟨ys, hl, j7⟩ := Zeb len one
   have j2 : 0 < len -> a.spot = none := fun j6 => by
    obtain ⟨y, _, j3, _, q1, q2⟩ := one 0 j6
    have := q2 0 hpos
    rw [dS (by omega)] at this
    simp only [gV, Addr.add, if_true] at this
    unfold World.cell? at this
    split at this
    . split at this
      . cases this
      . rename_i hs; simpa using hs
    . cases this
   refine ⟨ys, ⟨by omega, fun y hy => ?_⟩, .cons ?_ .nil⟩
   . obtain ⟨i, hi⟩ := eU hy
     exact (j7 i y hi).1
   . have j0 : ∀ (i : Nat) (row : List A), (ys.map enc)[i]? = some row -> i < len /\ ∃ y, ys[i]? = some y /\ row = enc y := by
      intro i row h
      simp only [eN, fW] at h
      obtain ⟨y, hy, rfl⟩ := h
      exact ⟨by have := (dU.1 hy).1; omega, y, hy, rfl⟩
     have j4 : ∀ i j, a.spot = none -> (a.add (i * P.cellsOf e)).add j = ⟨a.block, a.off + i * P.cellsOf e + j, none⟩ := by
      intro i j hs
      obtain ⟨b, o, s⟩ := a
      simp only at hs
      subst hs
      rw [Z08, Z08]
     have j1 : ∀ (i : Nat) (row : List A) (j : Nat) (x : A), (ys.map enc)[i]? = some row -> row[j]? = some x -> ∃ v, W.cell? ⟨a.block, a.off + i * P.cellsOf e + j, none⟩ = some v /\ R P Yy (Zyd W) W x v := by
      intro i row j x h1 h2
      obtain ⟨hi, y, hy, rfl⟩ := j0 i row h1
      obtain ⟨_, j3, hr, q1, q2⟩ := j7 i y hy
      have hj : j < P.cellsOf e := by rw [<- r.len y]; exact (dU.1 h2).1
      have := q2 j hj
      rw [dS (by omega), j4 i j (j2 (by omega))] at this
      exact ⟨_, this, hr.at_ j x _ h2 (dS (by omega))⟩
     suffices hh : R P Yy (Zyd W) W (.lit e (ys.map enc)) (.slice (some a) (ys.map enc).length cap) by
      simp only [dN, hl] at hh
      exact hh
     refine .lit e (ys.map enc) (some a) cap (fun i j => (W.cell? ⟨a.block, a.off + i * P.cellsOf e + j, none⟩).getD undef) (by simp [hl]; exact j8) (fun i row h => ?_) (fun i row j x h1 h2 => ?_) (fun i row j x h1 h2 => ?_)
     . obtain ⟨_, y, _, rfl⟩ := j0 i row h
       exact ⟨r.len y, r.cell y⟩
     . obtain ⟨v, hv, _⟩ := j1 i row j x h1 h2
       obtain ⟨hi, _⟩ := j0 i row h1
       have hs := j2 (by omega)
       refine ⟨a.block, a.off, by obtain ⟨b, o, s⟩ := a; simp only at hs; subst hs; rfl, ?_, by rw [hv]; rfl⟩
       show a.block < W.heap.size
       unfold World.cell? at hv
       cases hb : W.heap[a.block]? with
       | none => simp only [hb] at hv; cases hv
       | some o => exact (eC.1 hb).1
     . obtain ⟨v, hv, hr⟩ := j1 i row j x h1 h2
       rw [hv]
       exact hr
inductive RdF (P : Program) : List Field -> Nat -> (V : Type) -> (V -> List A) -> (V -> Prop) -> Prop
 | nil {n : Nat} : RdF P [] n Unit (fun _ => []) (fun _ => True)
 | cons {f : Field} {fs : List Field} {n : Nat} {V J : Type} {enc : V -> List A} {ok : V -> Prop} {enc' : J -> List A} {ok' : J -> Prop} (ho : f.offset = n) (r : Rdr P f.type enc ok) (rs : RdF P fs (n + P.cellsOf f.type) J enc' ok') :
   RdF P (f :: fs) n (V × J) (fun x => enc x.1 ++ enc' x.2) (fun x => ok x.1 /\ ok' x.2)
theorem RdF.all {fs : List Field} {n : Nat} {V : Type} {enc : V -> List A} {ok : V -> Prop} (r : RdF P fs n V enc ok) : (∀ y, Zi (enc y) = true) /\ (∃ m, ∀ y, (enc y).length = m) /\
 ∀ {H : Type} (e : TypeId × Value -> H) (W : World) (fuel : Nat) (cs : List Value), (∀ f ∈ fs, ∃ x, DataW.trod e P W 0 (fun _ => true) true fuel f.type ((cs.drop f.offset).take (P.cellsOf f.type)) = some x) -> ∃ y : V, ok y /\ RL P Yy (Zyd W) W (enc y) ((cs.drop n).take (enc y).length) := by
 induction r with
 | nil => exact ⟨fun _ => rfl, ⟨0, fun _ => rfl⟩, fun e W fuel cs _ => ⟨(), trivial, by simp only [eG, hZ]; exact .nil⟩⟩
 | @cons f fs n V J enc ok enc' ok' ho r rs ih =>
   obtain ⟨i1, ⟨m, i2⟩, i3⟩ := ih
   refine ⟨fun y => ?_, ⟨P.cellsOf f.type + m, fun y => by simp [r.len, i2]⟩, fun e W fuel cs h => ?_⟩
   . rw [Yz]
     intro x hx
     rcases dW.1 hx with hx | hx
     . exact Yz.1 (r.cell _) x hx
     . exact Yz.1 (i1 _) x hx
   . obtain ⟨x, hx⟩ := h f (by simp)
     obtain ⟨y, hy, hr⟩ := r.rd e W fuel _ x hx
     obtain ⟨z, hz, j0⟩ := i3 e W fuel cs (fun g hg => h g (by simp [hg]))
     refine ⟨(y, z), ⟨hy, hz⟩, ?_⟩
     have hl : ((cs.drop n).take (enc y ++ enc' z).length) = (cs.drop n).take (P.cellsOf f.type) ++ (cs.drop (n + P.cellsOf f.type)).take (enc' z).length := by
      rw [eE, r.len, List.take_add, List.drop_drop]
     rw [hl]
     rw [ho] at hr
     exact hr.append j0
theorem Rdr.struct {t : TypeId} {fs : Array Field} {V : Type} {enc : V -> List A} {ok : V -> Prop} (ht : P.underlying t = some (.struct fs)) (r : RdF P fs.toList 0 V enc ok) (hl : ∀ y, (enc y).length = P.cellsOf t) : Rdr P t enc ok := by
 obtain ⟨i1, _, i3⟩ := r.all
 refine ⟨fun e W fuel cs x h => ?_, hl, i1⟩
 obtain ⟨xs, n, _, _, j2, j3, j0⟩ := DataW.trod_struct ht h
 obtain ⟨y, hy, hr⟩ := i3 e W n cs (fun f hf => by
  obtain ⟨i, hi⟩ := eU hf
  have j1 : fs[i]? = some f := by simpa using hi
  have := j0 i f j1
  have hlt : i < fs.size := (eC.1 j1).1
  rw [dS (by omega)] at this
  exact ⟨_, this⟩)
 refine ⟨y, hy, ?_⟩
 rw [hl, <- j2] at hr
 simpa using hr
section
variable {H : Type} {e : TypeId × Value -> H} {W : World} {base : Nat} {t : TypeId} {v : Value} {d : DataW H} {ps : List MemPlace}
theorem Zvy {el : TypeId} {V : Type} {enc : V -> List A} {ok : V -> Prop} (ht : P.underlying t = some (.slice el)) (h1 : P.cellsOf t = 1) (hpos : 0 < P.cellsOf el) (r : Rdr P el enc ok) (hv : Value.okWide P W .any base t v) (h : DataW.Trod e P W 0 (fun _ => true) true t v d ps) :
 ∃ xs : List V, (xs.length <= maxLen /\ ∀ x ∈ xs, ok x) /\ R P Yy (Zyd W) W (.lit el (xs.map enc)) v := by
 obtain ⟨a, len, cap, rfl⟩ := okWide_slice ht hv
 obtain ⟨fuel, hf⟩ := h
 obtain ⟨y, hy, hr⟩ := (Rdr.slice ht h1 hpos r).rd e W fuel _ _ hf
 exact ⟨y, hy, hr.at_ 0 _ _ rfl rfl⟩
end
theorem Zbq {H : Type} {e : TypeId × Value -> H} {W W' : World} (hl : laidOutB P = true) (hb : Below W.heap.size W W') : ∀ {ts : List TypeId} {vs : List Value} {ds : List (DataW H)} {ps : List MemPlace}, (∀ t ∈ ts, P.readableRec t = true /\ t < P.types.size) -> DataW.TrodAll e P W 0 (fun _ => true) true ts vs ds ps ->
 (∀ x ∈ ps, x.block < W.heap.size) -> ∀ sp : Nat -> Bool, (∀ p ∈ ps, sp p.block = true) -> DataW.TrodAll e P W' 0 sp true ts vs ds ps
 | [], vs, ds, ps, _, h, _, sp, _ => by
   obtain ⟨rfl, rfl, rfl⟩ := trodAll_nil h
   exact h
 | t :: ts, vs, ds, ps, hr, h, hlt, sp, hsp => by
   obtain ⟨v, j1, d, j0, p, q, rfl, rfl, rfl, h1, h2⟩ := trodAll_cons h
   refine ⟨p, q, ?_, Zbq hl hb (fun u hu => hr u (by simp [hu])) h2 (fun x hx => hlt x (by simp [hx])) sp (fun x hx => hsp x (by simp [hx])), rfl⟩
   exact WideElems.Trod_stays hl (hr t (by simp)).1 (hr t (by simp)).2 h1 (fun x hx => hb.same (hlt x (by simp [hx]))) (fun x hx => hsp x (by simp [hx]))
theorem Zer {H : Type} {e : TypeId × Value -> H} {W : World} {sp : Nat -> Bool} {hd : Bool} : ∀ {ts : List TypeId} {vs : List Value} {ds : List (DataW H)} {ps : List MemPlace}, DataW.TrodAll e P W 0 sp hd ts vs ds ps -> ds.length = ts.length
 | [], vs, ds, ps, h => by obtain ⟨rfl, rfl, rfl⟩ := trodAll_nil h; rfl
 | t :: ts, vs, ds, ps, h => by
   obtain ⟨v, j1, d, j0, p, q, rfl, rfl, rfl, h1, h2⟩ := trodAll_cons h
   simp [Zer h2]
theorem GlobOk.nothing {S : Nat -> Prop} {w : World} (h : Z27.all (fun nm => (P.globalNamed nm).isNone) = true) : GlobOk P S w := by
 rw [cY] at h
 have hn : ∀ nm ∈ Z27, P.globalNamed nm = none := fun nm hm => by simpa using h nm hm
 refine ⟨fun nm hm g hg => ?_, fun q => ?_, fun q => ?_, fun q => ?_⟩
 . rw [hn nm hm] at hg; cases hg
 . rw [hn _ (by simp [Z27])] at q; cases q
 . rw [hn _ (by simp [Z27])] at q; cases q
 . rw [hn _ (by simp [Z27])] at q; cases q
theorem Zmm {H : Type} {enc : TypeId × Value -> H} {p : Prog} (O : ProgOk P p) {f D : Nat} {F : Func} {s : ChangeSpec} {tb : TypeId} (hl : laidOutB P = true) (hparams : ∀ t ∈ F.params.toList, P.readableRec t = true /\ t < P.types.size)
 (hvars : s.vars = []) (hres : F.resultTypes = #[tb]) (htb : P.underlying tb = some .bool)
 (hfn : ∀ ds : List (DataW H), ds.length = F.params.size -> (s.fn H ds).results = [.lit (.bool true)] /\ (s.fn H ds).args = ds /\ (s.fn H ds).vars = [])
 {W : World} {args : Array Value} {ds gs : List (DataW H)} {before : List MemPlace} (hW : DataW.Whole enc P F.params.toList s.vars false W args.toList ds gs before)
 (hG : GlobOk P (Zyd W) W)
 (hden : ∀ q, DataW.TrodAll enc P W 0 (fun _ => true) true F.params.toList args.toList ds q -> ∃ as, RL P Yy (Zyd W) W as args.toList /\ den p D f as = some [.v (.bool true)]) :
 Calls P f args W fun e W' => ∃ v, e = .returned v /\ s.post enc P F false true false false W args v W' := by
 have j6 := hW
 obtain ⟨q, q', hA, hV, rfl, ja, j9⟩ := hW
 rw [hvars] at hV
 obtain ⟨rfl, rfl⟩ := trodVars_none hV
 obtain ⟨as, hr, hd⟩ := hden q hA
 have j1 := Zti O hd (S := Zyd W) (fun k hk => hk) hG hr
 have j2 : args.toList.toArray = args := by simp
 rw [j2] at j1
 refine j1.mono fun en W1 he => ?_
 cases en with
 | returned v =>
   refine ⟨v, rfl, ?_⟩
   obtain ⟨S', _, _, j0, j8, j3⟩ := he
   obtain ⟨ρr, _, _, hv⟩ := j3 0
   have j7 : v = .bool true := (R.v_inv hv).1
   subst j7
   have j5 := Zer hA
   obtain ⟨f1, f2, f3⟩ := hfn ds (by simpa using j5)
   have hlt : ∀ x ∈ q, x.block < W.heap.size := fun x hx => by simpa using j6.lt x (by simpa using hx)
   have j4 : ∀ p ∈ q ++ [], (fun b => decide (b < W.heap.size)) p.block = true := fun p hp => by simpa using hlt p (by simpa using hp)
   refine ⟨_, _, _, [], q, [], j6, ?_, ?_, ?_, World.keptBut_mono (fun p hp => ⟨hp, ?_⟩) (j0.frame _), fun h => by cases h⟩
   . rw [fD, f1, hres]
     exact trodAll_mk1 (shut_bool htb true)
   . rw [fD, f2]
     exact Zbq hl j0 hparams hA hlt _ (fun x hx => j4 x (by simpa using hx))
   . rw [fD, f3, hvars]
     rfl
   . simpa using hp
 | _ => exact he.elim
end Go.Vm
end
