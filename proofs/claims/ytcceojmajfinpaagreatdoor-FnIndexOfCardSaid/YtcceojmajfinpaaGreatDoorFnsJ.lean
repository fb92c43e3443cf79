/-
  Tables copied with all that they lead to; tables that are drawn
-/
import Derived.Test.YtcceojmajfinpaaGreatDoorFnsH
import Derived.Test.YtcceojmajfinpaaGreatDoorFnsA
section
set_option linter.unusedVariables false
set_option linter.unusedSimpArgs false
set_option linter.unusedSectionVars false
namespace Go.Vm.T
open Go.Proofs
abbrev ro (m j : Nat) (r : RowV) : List A := [.n r.id, .n r.ver, .ref Z2 (m + (j + 1)) 0 r.vals.length r.vals.length false]
def roL (m : Nat) (rows : List RowV) : List (List A) := rows.mapIdx (ro m)
end Go.Vm.T
namespace Go.Vm.T
open Go.Proofs
variable [Pr2]
theorem Z9r {f : St -> Option Out} {L : List Nat} {K : Nat} {U U' U'' : St} (h1 : f U = some (.norm U')) (h2 : Go.Vm.canon L U' = some U'') : Zd f L (K + 1) U = Zd f L K U'' := by
 show Zh2 (f U) (fun O => bnd (Go.Vm.canon L O) (Zd f L K)) = _
 rw [h1]
 show bnd (Go.Vm.canon L U') (Zd f L K) = _
 rw [h2]
 rfl
structure RowsAt (h : Hp) (b : Nat) (rows : List RowV) : Prop where
 top : h b = some ⟨Z4, roL b rows, true, true⟩
 vals : ∀ (j : Nat) (r : RowV), rows[j]? = some r -> h (b + (j + 1)) = cU Z2 (r.vals.map Val.c)
structure TabH (h : Hp) (a b c : Nat) (t : Tab) : Prop where
 cols : h a = cU Z0 (t.first.map ColV.c)
 chgs : h b = cU Z3 (t.chg.map Chg.c)
 rows : RowsAt h c t.rows
theorem Zze {h : Hp} {b len c : Nat} {ex : Bool} {vs : List Val} {m : Nat} (hb : h b = cU Z2 (vs.map Val.c)) (hl : len = vs.length) : clD h (m + 1) (.ref Z2 b 0 len c ex) = some (.lit Z2 (vs.map Val.c), [b]) := by
 subst hl
 unfold clD
 rw [hb]
 simp only [bnd, dF, dN, dO, if_true, cond_false, dI, dP (show (vs.map Val.c).length <= vs.length by simp)]
end Go.Vm.T
namespace Go.Vm
theorem Wq {base : Nat} : ∀ {bs acc : List Nat} {b : Nat}, b ∈ Z4z base acc bs ↔ b ∈ acc \/ (b ∈ bs /\ base <= b)
 | [], acc, b => by simp [Z4z]
 | x :: bs, acc, b => by
   unfold Z4z
   split
   . rename_i h
     rw [Wq]
     constructor
     . rintro (q | ⟨q, r⟩)
       . exact .inl q
       . exact .inr ⟨eB _ q, r⟩
     . rintro (q | ⟨q, r⟩)
       . exact .inl q
       . rcases eK.1 q with rfl | q
         . rcases h with h | h
           . omega
           . exact .inl h
         . exact .inr ⟨q, r⟩
   . rename_i h
     simp only [not_or] at h
     rw [Wq, dW, dX, eK]
     constructor
     . rintro ((q | q) | ⟨q, r⟩)
       . exact .inl q
       . subst q; exact .inr ⟨.inl rfl, by omega⟩
       . exact .inr ⟨.inr q, r⟩
     . rintro (q | ⟨q | q, r⟩)
       . exact .inl (.inl q)
       . exact .inl (.inr q)
       . exact .inr ⟨q, r⟩
theorem Z3d {base : Nat} : ∀ {bs acc : List Nat}, acc.Nodup -> (Z4z base acc bs).Nodup
 | [], acc, h => h
 | x :: bs, acc, h => by
   unfold Z4z
   split
   . exact Z3d h
   . rename_i q
     simp only [not_or] at q
     refine Z3d ?_
     rw [List.nodup_append]
     refine ⟨h, by simp, fun a ha b hb => ?_⟩
     rw [dX] at hb
     subst hb
     rintro rfl
     exact q.2 ha
theorem Zbo {base : Nat} {s : Nat -> A} : ∀ {L acc : List Nat}, acc.Nodup -> (Xt base s acc L).Nodup
 | [], acc, h => h
 | i :: L, acc, h => by
   unfold Xt
   exact Zbo (Z3d h)
theorem Xc {base : Nat} {s : Nat -> A} {b : Nat} : ∀ {L acc : List Nat}, b ∈ Xt base s acc L ↔ b ∈ acc \/ ∃ i ∈ L, b ∈ Yb (s i) /\ base <= b
 | [], acc => by simp [Xt]
 | i :: L, acc => by
   unfold Xt
   rw [Xc, Wq]
   constructor
   . rintro ((q | ⟨q, r⟩) | ⟨j, hj, q⟩)
     . exact .inl q
     . exact .inr ⟨i, by simp, q, r⟩
     . exact .inr ⟨j, by simp [hj], q⟩
   . rintro (q | ⟨j, hj, q⟩)
     . exact .inl (.inl q)
     . rcases eK.1 hj with rfl | hj
       . exact .inl (.inr q)
       . exact .inr ⟨j, hj, q⟩
theorem Z2b {h : Hp} {b : Nat} : ∀ {l : List Nat}, b ∈ Z6v h l ↔ ∃ x ∈ l, b ∈ below h x
 | [] => by simp [Z6v]
 | x :: l => by
   unfold Z6v
   rw [dW, Z2b]
   simp
theorem Z9k : ∀ {ns : List Nat} {b k : Nat}, b ∈ ns -> ∃ i, ns[i]? = some b /\ Zya ns b k = k + i
 | a :: ns, b, k, h => by
   unfold Zya
   by_cases q : a = b
   . rw [if_pos q]; exact ⟨0, by simp [q], rfl⟩
   . rw [if_neg q]
     rcases eK.1 h with rfl | h
     . exact absurd rfl q
     . obtain ⟨i, h1, h2⟩ := Z9k (k := k + 1) h
       exact ⟨i + 1, by simpa using h1, by rw [h2]; omega⟩
structure Anew (base : Nat) (h : Hp) (ns : List Nat) : Prop where
 ge : ∀ b ∈ ns, base <= b
 at_ : ∀ b ∈ ns, Z8u base h ns (nw base ns b) = (h b).map (Z41 base ns)
 lt : ∀ b ∈ ns, nw base ns b < base + ns.length
 inj : ∀ a ∈ ns, ∀ b ∈ ns, nw base ns a = nw base ns b -> a = b
 sub : ∀ b ∈ ns, ∀ b' ∈ below h b, base <= b' -> b' ∈ ns
theorem Anew.ge' {base : Nat} {h : Hp} {ns : List Nat} (I : Anew base h ns) {b : Nat} (hb : b ∈ ns) : base <= nw base ns b := by
 have := I.ge b hb
 obtain ⟨i, h1, h2⟩ := Z9k (k := base) hb
 unfold nw
 rw [if_neg (by omega), h2]
 omega
theorem Zf0 {L : List Nat} {U : St} (H : ∀ b ∈ Xt U.base U.s [] L, ∀ b1 ∈ below U.h b, U.base <= b1 -> ∀ b2 ∈ below U.h b1, U.base <= b2 -> below U.h b2 = []) :
 ∃ ns, canon L U = some ⟨Xr U.base ns U.s (fun _ => .bad) L, Z8u U.base U.h ns, U.base + ns.length, U.base⟩ /\ (∀ b ∈ Xt U.base U.s [] L, b ∈ ns) /\ Anew U.base U.h ns := by
 have jb : (Z26 U.base U.h 2 (Xt U.base U.s [] L)).Nodup := by
  unfold Z26 Z26 Z26
  exact Z3d (Z3d (Zbo List.nodup_nil))
 have j1 : ∀ b ∈ Z26 U.base U.h 2 (Xt U.base U.s [] L), ∀ b' ∈ below U.h b, U.base <= b' -> b' ∈ Z26 U.base U.h 2 (Xt U.base U.s [] L) := by
  intro b hb b' j3 j0
  unfold Z26 Z26 Z26 at hb ⊢
  rcases Wq.1 hb with j2 | ⟨j2, hg⟩
  . exact Wq.2 (.inr ⟨Z2b.2 ⟨b, j2, j3⟩, j0⟩)
  . obtain ⟨b1, j2, j4⟩ := Z2b.1 j2
    rcases Wq.1 j2 with h0 | ⟨h0, ja⟩
    . exact Wq.2 (.inr ⟨Z2b.2 ⟨b, Wq.2 (.inr ⟨Z2b.2 ⟨b1, h0, j4⟩, hg⟩), j3⟩, j0⟩)
    . obtain ⟨b0, j9, j5⟩ := Z2b.1 h0
      have := H b0 j9 b1 j5 ja b j4 hg
      rw [this] at j3
      cases j3
 have j0 : ∀ b ∈ Z26 U.base U.h 2 (Xt U.base U.s [] L), U.base <= b := by
  intro b hb
  unfold Z26 Z26 Z26 at hb
  rcases Wq.1 hb with hb | ⟨_, hb⟩
  . rcases Wq.1 hb with hb | ⟨_, hb⟩
    . rcases Xc.1 hb with hb | ⟨i, _, _, hb⟩
      . cases hb
      . exact hb
    . exact hb
  . exact hb
 have j6 : ∀ b ∈ Xt U.base U.s [] L, b ∈ Z26 U.base U.h 2 (Xt U.base U.s [] L) := by
  intro b hb
  unfold Z26 Z26 Z26
  exact Wq.2 (.inl (Wq.2 (.inl hb)))
 generalize hns : Z26 U.base U.h 2 (Xt U.base U.s [] L) = ns at *
 have j8 : Zf8 U.base U.h ns = true := by
  unfold Zf8
  rw [cY]
  intro b hb
  obtain ⟨x, hx, j7⟩ := Z2b.1 hb
  simp only [fN, eJ, List.contains_eq_mem]
  by_cases q : b < U.base
  . exact .inl q
  . exact .inr (by simpa using j1 x hx b j7 (by omega))
 refine ⟨ns, Y0w hns j8, j6, ⟨j0, fun b hb => ?_, fun b hb => ?_, fun a ha b hb he => ?_, j1⟩⟩
 . have hg := j0 b hb
   obtain ⟨i, h1, h2⟩ := Z9k (k := U.base) hb
   have e : nw U.base ns b = U.base + i := by unfold nw; rw [if_neg (by omega), h2]
   rw [e]
   unfold Z8u
   rw [if_neg (by omega), show U.base + i - U.base = i by omega, h1]
 . have hg := j0 b hb
   obtain ⟨i, h1, h2⟩ := Z9k (k := U.base) hb
   unfold nw
   rw [if_neg (by omega), h2]
   have := (dU.1 h1).1
   omega
 . have ga := j0 a ha
   have gb := j0 b hb
   obtain ⟨i, h1, h2⟩ := Z9k (k := U.base) ha
   obtain ⟨j, h3, h4⟩ := Z9k (k := U.base) hb
   unfold nw at he
   rw [if_neg (by omega), if_neg (by omega), h2, h4] at he
   have : i = j := by omega
   subst this
   rw [h1] at h3
   exact eM h3
theorem Zb9 {base : Nat} {h : Hp} {ns : List Nat} {b : Nat} (hb : b < base) : Z8u base h ns b = h b := by unfold Z8u; rw [if_pos hb]
theorem Zdr {base : Nat} {ns : List Nat} {b : Nat} (hb : b < base) : nw base ns b = b := by unfold nw; rw [if_pos hb]
end Go.Vm
namespace Go.Vm.T
open Go.Proofs
abbrev Zhn (r : RowV) (b : Nat) (ex : Bool) : List A := [.n r.id, .n r.ver, cV Z2 b r.vals.length ex]
structure RowsG (h : Hp) (lo hi : Nat) (rs : List (List A)) (rows : List RowV) : Prop where
 len : rs.length = rows.length
 at_ : ∀ (j : Nat) (r : RowV), rows[j]? = some r -> ∃ b ex, rs[j]? = some (Zhn r b ex) /\ h b = cU Z2 (r.vals.map Val.c) /\ lo <= b /\ b < hi
abbrev Zf (a b c : Nat) (ea eb ec : Bool) (t : Tab) : List A := [cV Z0 a t.first.length ea, cV Z3 b t.chg.length eb, cV Z4 c t.rows.length ec, .n t.next]
structure TabW (h : Hp) (lo hi a b c : Nat) (rs : List (List A)) (bx : Bool) (t : Tab) : Prop where
 ha : h a = cU Z0 (t.first.map ColV.c)
 hb : h b = cU Z3 (t.chg.map Chg.c)
 hc : h c = some ⟨Z4, rs, true, bx⟩
 bx : bx = true \/ rs = []
 rows : RowsG h lo hi rs t.rows
 a1 : lo <= a
 a2 : a < hi
 b1 : lo <= b
 b2 : b < hi
 c1 : lo <= c
 c2 : c < hi
def TabG (h : Hp) (lo hi : Nat) (y : List A) (t : Tab) : Prop := ∃ a b c ea eb ec rs bx, y = Zf a b c ea eb ec t /\ TabW h lo hi a b c rs bx t
theorem RowsG.mono {h h' : Hp} {lo hi lo' hi' : Nat} {rs : List (List A)} {rows : List RowV} (R : RowsG h lo hi rs rows) (hl : lo' <= lo) (hh : hi <= hi') (H : ∀ y k, lo <= y -> y < hi -> h y = some k -> k.ty = Z2 -> h' y = some k) : RowsG h' lo' hi' rs rows := ⟨R.len, fun j r hr => by
 obtain ⟨b, ex, h1, h2, h3, h4⟩ := R.at_ j r hr
 exact ⟨b, ex, h1, H b _ h3 h4 h2 rfl, by omega, by omega⟩⟩
theorem TabW.mono {h h' : Hp} {lo hi lo' hi' a b c : Nat} {rs : List (List A)} {bx : Bool} {t : Tab} (W : TabW h lo hi a b c rs bx t) (hl : lo' <= lo) (hh : hi <= hi') (H : ∀ y k, lo <= y -> y < hi -> h y = some k -> ¬ k.ty = Z1 -> h' y = some k) : TabW h' lo' hi' a b c rs bx t := by
 have w1 := W.a1; have w2 := W.a2; have w3 := W.b1; have w4 := W.b2; have w5 := W.c1; have w6 := W.c2
 exact ⟨H a _ W.a1 W.a2 W.ha (by show ¬ Z0 = Z1; decide), H b _ W.b1 W.b2 W.hb (by show ¬ Z3 = Z1; decide), H c _ W.c1 W.c2 W.hc (by show ¬ Z4 = Z1; decide), W.bx, W.rows.mono hl hh (fun y k h1 h2 h3 h4 => H y k h1 h2 h3 (by rw [h4]; decide)), by omega, by omega, by omega, by omega, by omega, by omega⟩
theorem TabG.mono {h h' : Hp} {lo hi lo' hi' : Nat} {y : List A} {t : Tab} (W : TabG h lo hi y t) (hl : lo' <= lo) (hh : hi <= hi') (H : ∀ y k, lo <= y -> y < hi -> h y = some k -> ¬ k.ty = Z1 -> h' y = some k) : TabG h' lo' hi' y t := by
 obtain ⟨a, b, c, ea, eb, ec, rs, bx, rfl, W⟩ := W
 exact ⟨a, b, c, ea, eb, ec, rs, bx, rfl, W.mono hl hh H⟩
theorem Z9v {h : Hp} {b : Nat} {k : Blk} (hb : h b = some k) (hk : k.box = false) : below h b = [] := by
 unfold below; rw [hb]; simp only [hk, eH, if_false]
theorem Ztd {b : Nat} : ∀ {rs : List (List A)}, b ∈ Zn rs -> ∃ (j : Nat) (row : List A), rs[j]? = some row /\ b ∈ Zg row
 | [], h => by cases h
 | r :: rs, h => by
   unfold Zn at h
   rcases dW.1 h with h | h
   . exact ⟨0, r, rfl, h⟩
   . obtain ⟨j, row, h1, h2⟩ := Ztd h
     exact ⟨j + 1, row, by simpa using h1, h2⟩
theorem RowsG.val {h : Hp} {lo hi : Nat} {rs : List (List A)} {rows : List RowV} (R : RowsG h lo hi rs rows) {b : Nat} (hb : b ∈ Zn rs) : below h b = [] /\ lo <= b /\ b < hi := by
 obtain ⟨j, row, h1, h2⟩ := Ztd hb
 have hj := (dU.1 h1).1
 rw [R.len] at hj
 obtain ⟨b', ex, q1, q2, q3, q4⟩ := R.at_ j rows[j] (dS hj)
 rw [h1] at q1
 cases q1
 have : b = b' := by simpa [Zg, Yb, Yk] using h2
 subst this
 exact ⟨Z9v q2 rfl, q3, q4⟩
theorem TabG.deep {h : Hp} {lo hi : Nat} {y : List A} {t : Tab} (W : TabG h lo hi y t) {b1 : Nat} (hb : b1 ∈ Zg y) : lo <= b1 /\ ∀ b2 ∈ below h b1, below h b2 = [] := by
 obtain ⟨a, b, c, ea, eb, ec, rs, bx, rfl, W⟩ := W
 have : b1 = a \/ b1 = b \/ b1 = c := by simpa [Zg, Yb, Yk] using hb
 rcases this with rfl | rfl | rfl
 . exact ⟨W.a1, fun b2 h2 => by rw [Z9v W.ha rfl] at h2; cases h2⟩
 . exact ⟨W.b1, fun b2 h2 => by rw [Z9v W.hb rfl] at h2; cases h2⟩
 . refine ⟨W.c1, fun b2 h2 => ?_⟩
   unfold below at h2
   rw [W.hc] at h2
   cases bx with
   | false => cases h2
   | true => exact (W.rows.val h2).1
theorem Y0g {base : Nat} {ns : List Nat} (r : RowV) (b : Nat) (ex : Bool) : Zdb base ns (Zhn r b ex) = Zhn r (nw base ns b) ex := rfl
theorem Z9l {base : Nat} {ns : List Nat} (a b c : Nat) (ea eb ec : Bool) (t : Tab) : Zdb base ns (Zf a b c ea eb ec t) = Zf (nw base ns a) (nw base ns b) (nw base ns c) ea eb ec t := rfl
theorem TabG.anew {h : Hp} {base hi : Nat} {y : List A} {t : Tab} {ns : List Nat} (W : TabG h base hi y t) (I : Anew base h ns) (hy : ∀ b ∈ Zg y, b ∈ ns) : TabG (Z8u base h ns) base (base + ns.length) (Zdb base ns y) t := by
 obtain ⟨a, b, c, ea, eb, ec, rs, bx, rfl, W⟩ := W
 have ma : a ∈ ns := hy a (by simp [Zg, Yb, Yk])
 have mb : b ∈ ns := hy b (by simp [Zg, Yb, Yk])
 have mc : c ∈ ns := hy c (by simp [Zg, Yb, Yk])
 have fl : ∀ (b : Nat) (k : Blk), b ∈ ns -> h b = some k -> k.box = false -> Z8u base h ns (nw base ns b) = some k := fun b k m e q => by
  rw [I.at_ b m, e]
  simp only [fG, Z41, q, eH, if_false]
 rw [Z9l]
 cases bx with
 | false =>
   have j1 := W.bx.resolve_left (by decide)
   subst j1
   have j0 : t.rows = [] := fE.1 W.rows.len.symm
   refine ⟨_, _, _, ea, eb, ec, [], false, rfl, fl a _ ma W.ha rfl, fl b _ mb W.hb rfl, fl c _ mc W.hc rfl, .inr rfl, ⟨W.rows.len, fun j r hr => ?_⟩, I.ge' ma, I.lt a ma, I.ge' mb, I.lt b mb, I.ge' mc, I.lt c mc⟩
   rw [j0] at hr; simp at hr
 | true =>
   refine ⟨_, _, _, ea, eb, ec, rs.map (Zdb base ns), true, rfl, fl a _ ma W.ha rfl, fl b _ mb W.hb rfl, ?_, .inl rfl, ⟨by rw [dN]; exact W.rows.len, fun j r hr => ?_⟩, I.ge' ma, I.lt a ma, I.ge' mb, I.lt b mb, I.ge' mc, I.lt c mc⟩
   . rw [I.at_ c mc, W.hc]; rfl
   . obtain ⟨v, ex, q1, q2, q3, q4⟩ := W.rows.at_ j r hr
     have mv : v ∈ ns := I.sub c mc v (by
      unfold below
      rw [W.hc]
      simp only [if_true]
      have : ∀ (rs : List (List A)) (j : Nat), rs[j]? = some (Zhn r v ex) -> v ∈ Zn rs := by
       intro rs
       induction rs with
       | nil => intro j h; simp at h
       | cons x rs ih =>
         intro j h
         unfold Zn
         cases j with
         | zero => simp at h; subst h; simp [Zg, Yb, Yk]
         | succ j => exact gA _ (ih j (by simpa using h))
      exact this rs j q1) q3
     exact ⟨nw base ns v, ex, by rw [eN, q1]; rfl, fl v _ mv q2 rfl, I.ge' mv, I.lt v mv⟩
end Go.Vm.T
namespace Go.Vm.T
open Go.Proofs
variable [Pr2]
theorem Zwo {rows : List RowV} {i : Nat} {r : RowV} (hr : rows[i]? = some r) : rows.take (i + 1) = rows.take i ++ [r] := by
 rw [List.take_add_one, hr]; rfl
theorem RowsG.snoc {h : Hp} {lo hi : Nat} {rs : List (List A)} {rows : List RowV} (R : RowsG h lo hi rs rows) {r : RowV} {b : Nat} {ex : Bool} (hb : h b = cU Z2 (r.vals.map Val.c)) (h1 : lo <= b) (h2 : b < hi) : RowsG h lo hi (rs ++ [Zhn r b ex]) (rows ++ [r]) := ⟨by simp [R.len], fun j x hx => by
 by_cases hj : j < rows.length
 . rw [dZ hj] at hx
   obtain ⟨b', e', q1, q2⟩ := R.at_ j x hx
   exact ⟨b', e', by rw [dZ (by rw [R.len]; exact hj)]; exact q1, q2⟩
 . rw [eA (by omega)] at hx
   have : j - rows.length = 0 := by
    have := (dU.1 hx).1
    simp at this; omega
   rw [this] at hx
   simp at hx
   subst hx
   refine ⟨b, ex, ?_, hb, h1, h2⟩
   rw [eA (by rw [R.len]; omega), R.len, this]
   rfl⟩
def Y0r : List A -> Option Nat
 | [_, _, .ref _ b _ _ _ _] => some b
 | _ => none
def Dist (rs : List (List A)) : Prop := ∀ (i j : Nat) (x y : List A) (b : Nat), rs[i]? = some x -> rs[j]? = some y -> Y0r x = some b -> Y0r y = some b -> i = j
def DsT (h : Hp) (y : List A) : Prop := ∀ (ty c o l k : Nat) (e : Bool) (K : Blk), y[2]? = some (.ref ty c o l k e) -> h c = some K -> Dist K.rows
theorem Dist.nil : Dist [] := fun i j x y b h => by simp at h
theorem Zwr {r : RowV} {v : Nat} {ex : Bool} : ∀ {rs : List (List A)} {j : Nat}, rs[j]? = some (Zhn r v ex) -> v ∈ Zn rs
 | [], j, h => by simp at h
 | x :: rs, j, h => by
   unfold Zn
   cases j with
   | zero => simp at h; subst h; simp [Zg, Yb, Yk]
   | succ j => exact gA _ (Zwr (by simpa using h))
theorem RowsG.nm {h : Hp} {lo hi : Nat} {rs : List (List A)} {rows : List RowV} (R : RowsG h lo hi rs rows) {j : Nat} {x : List A} (hx : rs[j]? = some x) : ∃ r v ex, x = Zhn r v ex /\ lo <= v /\ v < hi := by
 have hl := (dU.1 hx).1
 rw [R.len] at hl
 obtain ⟨v, ex, q1, q2, q3, q4⟩ := R.at_ j _ (dS hl)
 rw [hx] at q1
 exact ⟨_, v, ex, eM q1, q3, q4⟩
theorem Dist.snoc {h : Hp} {lo hi : Nat} {rs : List (List A)} {rows : List RowV} (R : RowsG h lo hi rs rows) (D : Dist rs) {r : RowV} {b : Nat} {ex : Bool} (hb : hi <= b) : Dist (rs ++ [Zhn r b ex]) := fun i j x y v hx hy nx ny => by
 have key : ∀ {i : Nat} {x : List A}, (rs ++ [Zhn r b ex])[i]? = some x -> (rs[i]? = some x /\ i < rs.length) \/ (x = Zhn r b ex /\ i = rs.length) := fun {i x} hx => by
  by_cases hi : i < rs.length
  . rw [dZ hi] at hx; exact .inl ⟨hx, hi⟩
  . rw [eA (by omega)] at hx
    have hl := (dU.1 hx).1
    simp at hl
    have : i - rs.length = 0 := by omega
    rw [this] at hx
    exact .inr ⟨(eM hx).symm, by omega⟩
 rcases key hx with ⟨hx, _⟩ | ⟨rfl, ei⟩
 . rcases key hy with ⟨hy, _⟩ | ⟨rfl, ej⟩
   . exact D i j x y v hx hy nx ny
   . obtain ⟨r', v', j0, rfl, q1, q2⟩ := R.nm hx
     have e1 : v' = v := eM nx
     have e2 : b = v := eM ny
     omega
 . rcases key hy with ⟨hy, _⟩ | ⟨rfl, ej⟩
   . obtain ⟨r', v', j0, rfl, q1, q2⟩ := R.nm hy
     have e1 : b = v := eM nx
     have e2 : v' = v := eM ny
     omega
   . omega
theorem DsT.anew {h : Hp} {base hi : Nat} {y : List A} {t : Tab} {ns : List Nat} (W : TabG h base hi y t) (I : Anew base h ns) (hy : ∀ b ∈ Zg y, b ∈ ns) (D : DsT h y) : DsT (Z8u base h ns) (Zdb base ns y) := by
 obtain ⟨a, b, c, ea, eb, ec, rs, bx, rfl, W⟩ := W
 have mc : c ∈ ns := hy c (by simp [Zg, Yb, Yk])
 have D0 : Dist rs := D _ c _ _ _ _ _ rfl W.hc
 rw [Z9l]
 intro ty c' o l k e K h1 h2
 simp only [Zf, fF, fT, dM, A.ref.injEq] at h1
 obtain ⟨-, rfl, -⟩ := h1
 rw [I.at_ c mc, W.hc] at h2
 simp only [fG, dM] at h2
 subst h2
 cases bx with
 | false =>
   have := W.bx.resolve_left (by decide)
   subst this
   exact Dist.nil
 | true =>
   show Dist (rs.map (Zdb base ns))
   intro i j x' y' v hx j0 nx ny
   rw [eN] at hx j0
   have mem : ∀ {i : Nat} {x : List A}, rs[i]? = some x -> ∃ u, Y0r x = some u /\ Y0r (Zdb base ns x) = some (nw base ns u) /\ u ∈ ns := fun {i x} hx => by
    obtain ⟨r', u, j1, rfl, q1, q2⟩ := W.rows.nm hx
    exact ⟨u, rfl, by rw [Y0g]; rfl, I.sub c mc u (by unfold below; rw [W.hc]; simp only [if_true]; exact Zwr hx) q1⟩
   cases e1 : rs[i]? with
   | none => rw [e1] at hx; cases hx
   | some x =>
     cases e2 : rs[j]? with
     | none => rw [e2] at j0; cases j0
     | some y =>
       rw [e1] at hx; rw [e2] at j0
       simp only [fG, dM] at hx j0
       subst hx; subst j0
       obtain ⟨u1, n1, k1, m1⟩ := mem e1
       obtain ⟨u2, n2, k2, m2⟩ := mem e2
       rw [k1] at nx; rw [k2] at ny
       have : nw base ns u1 = nw base ns u2 := (eM nx).trans (eM ny).symm
       have := I.inj u1 m1 u2 m2 this
       subst this
       exact D0 i j x y u1 e1 e2 n1 n2
abbrev Vd (a b c : Nat) (ea eb ec : Bool) : List A := [cV Z0 a 0 ea, cV Z3 b 0 eb, cV Z4 c 0 ec, .n 0]
def ZI (h : Hp) (m n : Nat) (z : List A) : Prop := ∃ a b c ea eb ec, z = Vd a b c ea eb ec /\ ∀ v ∈ [a, b, c], m <= v /\ v < n /\ ∀ k, h v = some k -> k.box = false
theorem Zs4 {h : Hp} {v : Nat} (H : ∀ k, h v = some k -> k.box = false) : below h v = [] := by
 unfold below
 cases e : h v with
 | none => rfl
 | some k => simp only [H k e, eH, if_false]
theorem ZI.deep {h : Hp} {m n : Nat} {z : List A} (Z : ZI h m n z) {b : Nat} (hb : b ∈ Zg z) : below h b = [] := by
 obtain ⟨a, b', c, ea, eb, ec, rfl, Z⟩ := Z
 exact Zs4 (Z b (by simpa [Zg, Yb, Yk] using hb)).2.2
theorem ZI.anew {h : Hp} {base n : Nat} {z : List A} {ns : List Nat} (Z : ZI h base n z) (I : Anew base h ns) (hz : ∀ b ∈ Zg z, b ∈ ns) : ZI (Z8u base h ns) base (base + ns.length) (Zdb base ns z) := by
 obtain ⟨a, b', c, ea, eb, ec, rfl, Z⟩ := Z
 refine ⟨nw base ns a, nw base ns b', nw base ns c, ea, eb, ec, rfl, fun v hv => ?_⟩
 have : ∃ u ∈ [a, b', c], v = nw base ns u := by
  rcases eK.1 hv with rfl | hv
  . exact ⟨a, by simp, rfl⟩
  . rcases eK.1 hv with rfl | hv
    . exact ⟨b', by simp, rfl⟩
    . rw [dX] at hv; subst hv; exact ⟨c, by simp, rfl⟩
 obtain ⟨u, hu, rfl⟩ := this
 have mu : u ∈ ns := hz u (by simpa [Zg, Yb, Yk] using hu)
 refine ⟨I.ge' mu, I.lt u mu, fun k hk => ?_⟩
 rw [I.at_ u mu] at hk
 cases e : h u with
 | none => rw [e] at hk; cases hk
 | some k0 =>
   rw [e] at hk
   have q := (Z u hu).2.2 k0 e
   simp only [fG, Z41, q, eH, if_false, dM] at hk
   rw [<- hk]; exact q
structure CpI (H0 : Hp) (m : Nat) (x : List A) (t : Tab) (i : Nat) (s : Nat -> A) (h : Hp) (n p1 p2 p3 : Nat) : Prop where
 s1 : s 1 = .ptr p1 0 0
 s2 : s 2 = .ptr p2 0 0
 s3 : s 3 = .ptr p3 0 0
 s4 : s 4 = .n i
 l1 : m <= p1 /\ p1 < n
 l2 : m <= p2 /\ p2 < n
 l3 : m <= p3 /\ p3 < n
 n12 : ¬ p1 = p2
 n13 : ¬ p1 = p3
 n23 : ¬ p2 = p3
 h1 : h p1 = cT Z1 [x]
 h2 : ∃ z, h p2 = cT Z1 [z] /\ ZI h m n z
 h3 : ∃ y, h p3 = cT Z1 [y] /\ TabG h m n y ⟨t.first, t.chg, t.rows.take i, t.next⟩ /\ DsT h y
 low : ∀ b, b < m -> h b = H0 b
theorem CpI.head {H0 : Hp} {m : Nat} {x : List A} {t : Tab} {i : Nat} {s' : Nat -> A} {H : Hp} {n p1 p2 p3 : Nat} (hx : TabG H0 0 m x t) (I : CpI H0 m x t i s' H n p1 p2 p3) :
 ∃ q1 q2 q3 ns, Go.Vm.canon [1, 2, 3, 4] ⟨s', H, n, m⟩ = some ⟨Xr m ns s' (fun _ => .bad) [1, 2, 3, 4], Z8u m H ns, m + ns.length, m⟩ /\ CpI H0 m x t i (Xr m ns s' (fun _ => .bad) [1, 2, 3, 4]) (Z8u m H ns) (m + ns.length) q1 q2 q3 := by
 obtain ⟨ax, bx_, cx, jg, jc, jd, jj, jh, rfl, X⟩ := hx
 obtain ⟨z, j2, Z'⟩ := I.h2
 obtain ⟨y, j7, Y', j8⟩ := I.h3
 have j3 := I.h1
 have t1 := I.s1; have t2 := I.s2; have t3 := I.s3; have t4 := I.s4
 have i1 := I.l1; have i2 := I.l2; have i3 := I.l3
 have jb := X.a2; have j9 := X.b2; have x2 := X.c2
 obtain ⟨ns, j4, j5, AN⟩ := Zf0 (L := [1, 2, 3, 4]) (U := ⟨s', H, n, m⟩) (fun v hv b1 j1 ja b2 j6 jf => by
  rcases Xc.1 hv with hv | ⟨j, hj, hv, jm⟩
  . cases hv
  . have : v = p1 \/ v = p2 \/ v = p3 := by
     simp only [eK, fU, or_false] at hj
     rcases hj with rfl | rfl | rfl | rfl
     . left; simpa [t1, Yb, Yk] using hv
     . right; left; simpa [t2, Yb, Yk] using hv
     . right; right; simpa [t3, Yb, Yk] using hv
     . simp [t4, Yb, Yk] at hv
    rcases this with rfl | rfl | rfl
    . exfalso
      have j0 : b1 = ax \/ b1 = bx_ \/ b1 = cx := by
       unfold below at j1
       simp only [j3] at j1
       simpa [Zn, Zg, Yb, Yk] using j1
      simp only at ja
      rcases j0 with rfl | rfl | rfl <;> omega
    . have j0 : b1 ∈ Zg z := by
       unfold below at j1
       simp only [j2] at j1
       simpa [Zn] using j1
      have := Z'.deep j0
      simp only at j6
      rw [this] at j6; cases j6
    . have j0 : b1 ∈ Zg y := by
       unfold below at j1
       simp only [j7] at j1
       simpa [Zn] using j1
      exact (Y'.deep j0).2 b2 j6)
 simp only at j4 j5 AN
 have m1 : p1 ∈ ns := j5 p1 (Xc.2 (.inr ⟨1, by simp, by simp [t1, Yb, Yk], by omega⟩))
 have m2 : p2 ∈ ns := j5 p2 (Xc.2 (.inr ⟨2, by simp, by simp [t2, Yb, Yk], by omega⟩))
 have m3 : p3 ∈ ns := j5 p3 (Xc.2 (.inr ⟨3, by simp, by simp [t3, Yb, Yk], by omega⟩))
 refine ⟨nw m ns p1, nw m ns p2, nw m ns p3, ns, j4, ?_⟩
 refine ⟨by simp [Xr, Z7, t1, ren, Zk8], by simp [Xr, Z7, t2, ren, Zk8], by simp [Xr, Z7, t3, ren, Zk8], by simp [Xr, Z7, t4, ren, Zk8], ⟨AN.ge' m1, AN.lt p1 m1⟩, ⟨AN.ge' m2, AN.lt p2 m2⟩, ⟨AN.ge' m3, AN.lt p3 m3⟩, fun e => I.n12 (AN.inj p1 m1 p2 m2 e), fun e => I.n13 (AN.inj p1 m1 p3 m3 e), fun e => I.n23 (AN.inj p2 m2 p3 m3 e), ?_, ⟨Zdb m ns z, ?_, Z'.anew AN ?_⟩, ⟨Zdb m ns y, ?_, ?_, ?_⟩, fun w hw => ?_⟩
 . rw [AN.at_ p1 m1, j3]
   simp only [fG, Z41, if_true, fO, dJ, Z9l, Zdr jb, Zdr j9, Zdr x2]
 . rw [AN.at_ p2 m2, j2]; rfl
 . exact fun b hb => AN.sub p2 m2 b (by unfold below; rw [j2]; simpa [Zn] using hb) (by
    obtain ⟨za, zb, zc, jl, ji, je, rfl, Z'⟩ := Z'
    exact (Z' b (by simpa [Zg, Yb, Yk] using hb)).1)
 . rw [AN.at_ p3 m3, j7]; rfl
 . exact Y'.anew AN (fun b hb => AN.sub p3 m3 b (by unfold below; rw [j7]; simpa [Zn] using hb) (Y'.deep hb).1)
 . exact DsT.anew Y' AN (fun b hb => AN.sub p3 m3 b (by unfold below; rw [j7]; simpa [Zn] using hb) (Y'.deep hb).1) j8
 . rw [Zb9 hw]
   exact I.low w hw
set_option maxHeartbeats 4000000 in
theorem Zl6 {E : Env} (H0 : Hp) (m : Nat) (x : List A) (t : Tab) (hx : TabG H0 0 m x t) (hl : t.rows.length <= 100) (hvs : ∀ r ∈ t.rows, r.vals.length <= big) : ∀ (r i : Nat) (K : Nat) (s : Nat -> A) (h : Hp) (n p1 p2 p3 : Nat), i + r = t.rows.length -> r < K -> CpI H0 m x t i s h n p1 p2 p3 ->
 ∃ s' h' n' p1 p2 p3, Zd (Zj E We) [1, 2, 3, 4] K ⟨s, h, n, m⟩ = some (.exit 0 ⟨s', h', n', m⟩) /\ CpI H0 m x t t.rows.length s' h' n' p1 p2 p3
 | 0, i, K, s, h, n, p1, p2, p3, hi, hK, I => by
   obtain ⟨K, rfl⟩ : ∃ j, K = j + 1 := ⟨K - 1, by omega⟩
   have jw : i = t.rows.length := by omega
   subst jw
   have hn : ¬ t.rows.length < t.rows.length := eL _
   obtain ⟨ax, bx_, cx, j4, j1, j2, je, jd, rfl, X⟩ := hx
   have j5 : h p1 = cT Z1 [Zf ax bx_ cx j4 j1 j2 t] := I.h1
   have step : ∃ s', Zd (Zj E We) [1, 2, 3, 4] (K + 1) ⟨s, h, n, m⟩ = some (.exit 0 ⟨s', h, n, m⟩) /\ s' 1 = s 1 /\ s' 2 = s 2 /\ s' 3 = s 3 /\ s' 4 = s 4 := by
    simp only [Zd, Z70, Z0f, go_sem, I.s1, I.s4, j5, hn]
    exact ⟨_, rfl, by simp only [go_sem]; try exact I.s1, by simp only [go_sem], by simp only [go_sem], by simp only [go_sem]; try exact I.s4⟩
   obtain ⟨s', e0, e1, e2, e3, e4⟩ := step
   exact ⟨s', h, n, p1, p2, p3, e0, ⟨e1.trans I.s1, e2.trans I.s2, e3.trans I.s3, e4.trans I.s4, I.l1, I.l2, I.l3, I.n12, I.n13, I.n23, I.h1, I.h2, I.h3, I.low⟩⟩
 | r + 1, i, K, s, h, n, p1, p2, p3, hi, hK, I => by
   obtain ⟨K, rfl⟩ : ∃ j, K = j + 1 := ⟨K - 1, by omega⟩
   have hlt : i < t.rows.length := by omega
   have hw := Zk (n := i) (by omega)
   have jf : t.rows[i]? = some t.rows[i] := dS hlt
   generalize hrg : t.rows[i] = rr at *
   obtain ⟨ax, bx_, cx, j4, j1, j2, je, jd, rfl, X⟩ := hx
   obtain ⟨z, jb, Z⟩ := I.h2
   obtain ⟨y, jj, Y, Ds⟩ := I.h3
   obtain ⟨a, b, c, ea, eb, ec, rs, bx, rfl, W⟩ := Y
   obtain ⟨vx, kq, k6, jq, -, hvl⟩ := X.rows.at_ i rr jf
   have jh : h cx = some ⟨Z4, je, true, jd⟩ := by rw [I.low cx X.c2]; exact X.hc
   have j7 : h vx = cU Z2 (rr.vals.map Val.c) := by rw [I.low vx hvl]; exact jq
   have ji : (t.rows.take i).length = i := by simp; omega
   have jv : rs.length = i := by rw [W.rows.len]; exact ji
   have i1 := I.l1; have i2 := I.l2; have i3 := I.l3
   have x2 := X.c2
   have w5 := W.c1; have w6 := W.c2
   have P1 := Z8 I.l1.2
   have P2 := Z8 I.l2.2
   have P3 := Z8 I.l3.2
   have CX := Z8 (show cx < n by omega)
   have VX := Z8 (show vx < n by omega)
   have C := Z8 W.c2
   have j3 := W.hc
   have j0 : h p3 = cT Z1 [[cV Z0 a t.first.length ea, cV Z3 b t.chg.length eb, cV Z4 c i ec, .n t.next]] := by rw [jj]; simp only [Zf, ji]
   have j5 : h p1 = cT Z1 [Zf ax bx_ cx j4 j1 j2 t] := I.h1
   have jc : ∀ {q : Nat} {k : Blk}, h q = some k -> ¬ k.ty = Z1 -> (q = p1) = False /\ (q = p3) = False /\ (p1 = q) = False /\ (p3 = q) = False /\ (q = p2) = False /\ (p2 = q) = False := fun {q k} e ne => ⟨eqF (by rintro rfl; rw [j5] at e; cases e; exact ne rfl), eqF (by rintro rfl; rw [j0] at e; cases e; exact ne rfl), eqF (by rintro rfl; rw [j5] at e; cases e; exact ne rfl), eqF (by rintro rfl; rw [j0] at e; cases e; exact ne rfl), eqF (by rintro rfl; rw [jb] at e; cases e; exact ne rfl), eqF (by rintro rfl; rw [jb] at e; cases e; exact ne rfl)⟩
   obtain ⟨c1, c3, jn, k1, c2, js⟩ := jc j3 (by show ¬ Z4 = Z1; decide)
   obtain ⟨x1, x3, kc, kf, x2_, kj⟩ := jc jh (by show ¬ Z4 = Z1; decide)
   obtain ⟨v1, v3, kn, kl, v2, kg⟩ := jc j7 (by show ¬ Z2 = Z1; decide)
   have vc : (vx = c) = False := eqF (by rintro rfl; rw [j7] at j3; cases j3)
   have km : (c = vx) = False := eqF (by rintro rfl; rw [j7] at j3; cases j3)
   have xc : (cx = c) = False := eqF (by have := W.c1; omega)
   have ka : (c = cx) = False := eqF (by have := W.c1; omega)
   have k9 := eqF I.n12; have k8 := eqF I.n13; have kd := eqF I.n23
   have ko := eqF (Ne.symm I.n12); have kb := eqF (Ne.symm I.n13); have ke := eqF (Ne.symm I.n23)
   have k2 : i + 1 <= big := by unfold big; omega
   have kp := X.rows.len
   have k5 := Zb Val.c rr.vals
   have jm : rr.vals.length <= big := hvs rr (dY jf)
   have k0 : rs.take i = rs := dP (by omega)
   have kh : imp bx true = true := by cases bx <;> rfl
   have jr : (p3 < m) = False := eq_false (by omega)
   have q3 : (n == p3) = false := eD.2 (by omega)
   have q1 : (n == p1) = false := eD.2 (by omega)
   have qx : (n == cx) = false := eD.2 (by omega)
   have step : ∃ s' H, Zj E We ⟨s, h, n, m⟩ = some (.norm ⟨s', H, n + 5, m⟩) /\ s' 1 = .ptr p1 0 0 /\ s' 2 = .ptr p2 0 0 /\ s' 3 = .ptr p3 0 0 /\ s' 4 = .n ((i + 1 : Nat) : Int) /\ H (n + 1) = cU Z2 (rr.vals.map Val.c) /\ H (n + 4) = some ⟨Z4, rs ++ [Zhn rr (n + 1) false], true, true⟩ /\ H p3 = cT Z1 [[cV Z0 a t.first.length ea, cV Z3 b t.chg.length eb, .ref Z4 (n + 4) 0 (i + 1) (i + 1) false, .n t.next]] /\ H c = none /\ ∀ y, y < n -> ¬ y = c -> ¬ y = p3 -> H y = h y := by
    simp only [Z70, Z0f, go_sem, I.s1, I.s3, I.s4, j5, j0, jh, j7, j3, k6, hlt, hw, k2, k5, jm, jv, k0, k1, P1.e, P3.a, CX.e, VX.e, C.a, jr, q3, q1, qx, dN, dO]
    refine ⟨_, _, rfl, ?_, ?_, ?_, ?_, ?_, ?_, ?_, ?_, fun y hy h1 h2 => ?_⟩
    . simp only [go_sem, I.s1]
    . simp only [go_sem, I.s2]
    . simp only [go_sem, I.s3]
    . simp only [go_sem]
    . simp only [go_sem, P3.k', C.k']
    . simp only [go_sem, P3.k', C.k']
    . simp only [go_sem]
    . simp only [go_sem, c3, C.k]
    . have Y := Z8 hy
      simp only [go_sem, h1, h2, Y.a]
   obtain ⟨s', H, jx, t1, t2, t3, t4, g1, g2, g3, gc, gy⟩ := step
   have ja : H p2 = cT Z1 [z] := by rw [gy p2 (by omega) (of_eq_false js) (Ne.symm (Ne.symm I.n23))]; exact jb
   have j8 : H p1 = cT Z1 [Zf ax bx_ cx j4 j1 j2 t] := by rw [gy p1 (by omega) (of_eq_false jn) I.n13]; exact j5
   have Z' : ZI H m (n + 5) z := by
    obtain ⟨za, zb, zc, k4, jy, jo, rfl, Z⟩ := Z
    refine ⟨za, zb, zc, k4, jy, jo, rfl, fun v hv => ?_⟩
    obtain ⟨z1, z2, z3⟩ := Z v hv
    refine ⟨z1, by omega, fun k hk => ?_⟩
    by_cases e : v = c
    . subst e; rw [gc] at hk; cases hk
    . have e3 : ¬ v = p3 := by
       rintro rfl
       have := z3 _ jj
       cases this
      rw [gy v z2 e e3] at hk
      exact z3 k hk
   have keep : ∀ y k, y < n -> h y = some k -> ¬ k.ty = Z1 -> ¬ k.ty = Z4 -> H y = some k := fun y k h1 h2 h3 h4 => by
    rw [gy y h1 (by rintro rfl; rw [j3] at h2; cases h2; exact h4 rfl) (by rintro rfl; rw [j0] at h2; cases h2; exact h3 rfl)]
    exact h2
   have Y' : TabG H m (n + 5) (Zf a b (n + 4) ea eb false ⟨t.first, t.chg, t.rows.take (i + 1), t.next⟩) ⟨t.first, t.chg, t.rows.take (i + 1), t.next⟩ := by
    have w1 := W.a2; have w2 := W.b2; have w3 := W.a1; have w4 := W.b1
    refine ⟨a, b, n + 4, ea, eb, false, rs ++ [Zhn rr (n + 1) false], true, rfl, keep a _ W.a2 W.ha (by show ¬ Z0 = Z1; decide) (by show ¬ Z0 = Z4; decide), keep b _ W.b2 W.hb (by show ¬ Z3 = Z1; decide) (by show ¬ Z3 = Z4; decide), g2, .inl rfl, ?_, by omega, by omega, by omega, by omega, by omega, by omega⟩
    show RowsG H m (n + 5) _ (t.rows.take (i + 1))
    rw [Zwo jf]
    exact (W.rows.mono (dO _) (by omega) (fun y k h1 h2 h3 h4 => keep y k h2 h3 (by rw [h4]; decide) (by rw [h4]; decide))).snoc g1 (by omega) (by omega)
   have j6 : (t.rows.take (i + 1)).length = i + 1 := by simp; omega
   have k3 : H p3 = some ⟨Z1, [Zf a b (n + 4) ea eb false ⟨t.first, t.chg, t.rows.take (i + 1), t.next⟩], true, true⟩ := by rw [g3]; simp only [Zf, j6]
   have jz : DsT H (Zf a b (n + 4) ea eb false ⟨t.first, t.chg, t.rows.take (i + 1), t.next⟩) := by
    intro ty c' o l k e K h1 h2
    simp only [Zf, fF, fT, dM, A.ref.injEq] at h1
    obtain ⟨-, rfl, -⟩ := h1
    rw [g2] at h2
    cases h2
    exact Dist.snoc W.rows (Ds _ c _ _ _ _ _ rfl j3) (by omega)
   have kk := X.a2; have ki := X.b2
   have I' : CpI H0 m (Zf ax bx_ cx j4 j1 j2 t) t (i + 1) s' H (n + 5) p1 p2 p3 := ⟨t1, t2, t3, t4, by omega, by omega, by omega, I.n12, I.n13, I.n23, j8, ⟨z, ja, Z'⟩, ⟨_, k3, Y', jz⟩, fun y hy => by
    have e1 : ¬ y = c := by have := W.c1; omega
    rw [gy y (by omega) e1 (by omega)]
    exact I.low y hy⟩
   have jg : TabG H0 0 m (Zf ax bx_ cx j4 j1 j2 t) t := ⟨ax, bx_, cx, j4, j1, j2, je, jd, rfl, X⟩
   obtain ⟨q1, q2, q3, ns, j9, ju⟩ := I'.head jg
   obtain ⟨jt, jp, jl, q1, q2, q3, k7, hI⟩ := Zl6 H0 m (Zf ax bx_ cx j4 j1 j2 t) t jg hl hvs r (i + 1) K _ _ _ _ _ _ (by omega) (by omega) ju
   exact ⟨jt, jp, jl, q1, q2, q3, by rw [Z9r jx j9]; exact k7, hI⟩
set_option maxHeartbeats 4000000 in
theorem Znd {D : Nat} (hD : 1 <= D) (x : List A) (t : Tab) (h : Hp) (m : Nat) (hx : TabG h 0 m x t) (hl : t.rows.length <= 100) (hvs : ∀ r ∈ t.rows, r.vals.length <= big) (hf : t.first.length <= big) (hg : t.chg.length <= big) :
 ∃ y h' n', dcl pr D Vp [.agg x] h m = some ([.agg y], h', n') /\ TabG h' m n' y t /\ DsT h' y /\ m <= n' /\ ∀ b, b < m -> h' b = h b := by
 obtain ⟨D, rfl, hd⟩ := Zc hD
 rw [Zju]
 have jd := hx
 obtain ⟨ax, bx_, cx, j5, j1, j3, jo, jm, rfl, X⟩ := jd
 have XA := Z8 X.a2
 have XB := Z8 X.b2
 have jg := X.ha
 have jf := X.hb
 have jh := Zb ColV.c t.first
 have je := Zb Chg.c t.chg
 have q5 : (m + 5 == m) = false := eD.2 (by omega)
 have q7 : (m + 7 == m) = false := eD.2 (by omega)
 have h0 : ∃ s H, Zj (aH D) (hdQ (Zs 0 Vi.code)) ⟨slots [.agg (Zf ax bx_ cx j5 j1 j3 t)], h, m, m⟩ = some (.norm ⟨s, H, m + 5, m⟩) /\ s 1 = .ptr m 0 0 /\ s 2 = .ptr (m + 1) 0 0 /\ H m = cT Z1 [Zf ax bx_ cx j5 j1 j3 t] /\ H (m + 1) = cT Z1 [Vd (m + 2) (m + 3) (m + 4) false false false] /\ H (m + 2) = cU Z0 [] /\ H (m + 3) = cU Z3 [] /\ H (m + 4) = cU Z4 [] /\ ∀ y, y < m -> H y = h y := by
  simp only [Vi, hdQ, Zs, go_sem]
  refine ⟨_, _, rfl, ?_, ?_, ?_, ?_, ?_, ?_, ?_, fun y hy => ?_⟩
  . simp only [go_sem]
  . simp only [go_sem]
  . simp only [go_sem]
  . simp only [go_sem]
  . simp only [go_sem]
  . simp only [go_sem]
  . simp only [go_sem]
  . have Y := Z8 hy
    simp only [go_sem, Y.a]
 obtain ⟨s0, H0, e0, a1, a2, b1, b2, b3, b4, b5, b6⟩ := h0
 have j2 : H0 ax = cU Z0 (t.first.map ColV.c) := by rw [b6 ax X.a2]; exact jg
 have j6 : H0 bx_ = cU Z3 (t.chg.map Chg.c) := by rw [b6 bx_ X.b2]; exact jf
 have h1 : ∃ s H, Zj (aH D) (hdQ (Zs 1 Vi.code)) ⟨s0, H0, m + 5, m⟩ = some (.norm ⟨s, H, m + 16, m⟩) /\ s 1 = .ptr m 0 0 /\ s 2 = .ptr (m + 1) 0 0 /\ s 3 = .ptr (m + 12) 0 0 /\ (∀ y, y < m + 5 -> H y = H0 y) /\ H (m + 12) = cT Z1 [[cV Z0 (m + 6) t.first.length false, cV Z3 (m + 8) t.chg.length false, cV Z4 (m + 11) 0 false, .n t.next]] /\ H (m + 6) = cU Z0 (t.first.map ColV.c) /\ H (m + 8) = cU Z3 (t.chg.map Chg.c) /\ H (m + 11) = cU Z4 [] := by
  simp only [Vi, go_sem, a1, b1, j2, j6, jh, je, hf, hg, q5, q7, XA.k, XB.k, dN, dO]
  refine ⟨_, _, rfl, ?_, ?_, ?_, fun y hy => ?_, ?_, ?_, ?_, ?_⟩
  . simp only [go_sem, a1]
  . simp only [go_sem, a2]
  . simp only [go_sem]
  . have Y : ∀ k, (y = m + (5 + k)) = False := fun k => eq_false (by omega)
    have y5 := Y 0; have y6 := Y 1; have y7 := Y 2; have y8 := Y 3; have y9 := Y 4; have j7 := Y 5; have jc := Y 6; have jb := Y 7; have j8 := Y 8; have ja := Y 9; have j9 := Y 10
    simp only [Nat.reduceAdd] at y5 y6 y7 y8 y9 j7 jc jb j8 ja j9
    simp only [go_sem, y5, y6, y7, y8, y9, j7, jc, jb, j8, ja, j9]
  . simp only [go_sem]
  . simp only [go_sem]
  . simp only [go_sem]
  . simp only [go_sem]
 obtain ⟨s1, H1, e1, a1, a2, a3, g0, g1, g2, g3, g4⟩ := h1
 have I0 : CpI h m (Zf ax bx_ cx j5 j1 j3 t) t 0 (upd s1 4 (.n (0 : Nat))) H1 (m + 16) m (m + 1) (m + 12) := by
  refine ⟨by simp only [go_sem, a1], by simp only [go_sem, a2], by simp only [go_sem, a3], by simp only [go_sem], by omega, by omega, by omega, by omega, by omega, by omega, ?_, ⟨_, ?_, m + 2, m + 3, m + 4, false, false, false, rfl, fun v hv => ?_⟩, ⟨_, g1, ⟨m + 6, m + 8, m + 11, false, false, false, [], false, ?_, ?_⟩, ?_⟩, fun y hy => ?_⟩
  . rw [g0 m (by omega)]; exact b1
  . rw [g0 (m + 1) (by omega)]; exact b2
  . have : v = m + 2 \/ v = m + 3 \/ v = m + 4 := by simpa using hv
    rcases this with rfl | rfl | rfl
    . exact ⟨by omega, by omega, fun k hk => by rw [g0 _ (by omega), b3] at hk; cases hk; rfl⟩
    . exact ⟨by omega, by omega, fun k hk => by rw [g0 _ (by omega), b4] at hk; cases hk; rfl⟩
    . exact ⟨by omega, by omega, fun k hk => by rw [g0 _ (by omega), b5] at hk; cases hk; rfl⟩
  . simp only [Zf, hZ, eG]
  . refine ⟨g2, g3, g4, .inr rfl, ⟨by simp, fun j r hr => by simp at hr⟩, by omega, by omega, by omega, by omega, by omega, by omega⟩
  . intro ty c' o l k e K h1 h2
    simp only [fF, fT, dM, A.ref.injEq] at h1
    obtain ⟨-, rfl, -⟩ := h1
    rw [g4] at h2
    cases h2
    exact Dist.nil
  . rw [g0 y (by omega)]; exact b6 y hy
 obtain ⟨q1, q2, q3, ns, j4, I1⟩ := I0.head hx
 obtain ⟨s2, H2, n2, p1, p2, p3, ji, I2⟩ := Zl6 (E := (aH D)) h m _ t hx hl hvs t.rows.length 0 rounds _ _ _ _ _ _ (by omega) (by unfold rounds; omega) I1
 have h2 : Zj (aH D) (hdQ (Zs 2 Vi.code)) ⟨s1, H1, m + 16, m⟩ = some (.norm ⟨s2, H2, n2, m⟩) := by
  have : Zj (aH D) (hdQ (Zs 2 Vi.code)) ⟨s1, H1, m + 16, m⟩ = blO 0 (bnd (Go.Vm.canon [1, 2, 3, 4] ⟨upd s1 4 (.n (0 : Nat)), H1, m + 16, m⟩) (Zd (Zj (aH D) We) [1, 2, 3, 4] rounds)) := rfl
  rw [this, j4]
  show blO 0 (Zd _ _ _ _) = _
  rw [ji]
  rfl
 have j0 := ((Xz (C := Vi.code) 0 e0 rfl).trans (Xz 1 e1 rfl)).trans (Xz 2 h2 rfl)
 rw [show Zs 0 Vi.code = Vi.code from rfl] at j0
 rw [j0]
 obtain ⟨z, hz, Z⟩ := I2.h2
 obtain ⟨y, hy, Y, Ds⟩ := I2.h3
 rw [List.take_length] at Y
 obtain ⟨za, zb, zc, jp, jn, jl, rfl, Z⟩ := Z
 obtain ⟨ya, yb, yc, fa, fb, fc, rs, bx, rfl, W⟩ := Y
 have i2 := I2.l2; have i3 := I2.l3
 have lm : (p2 < m) = False := eq_false (by omega)
 have n23 := eqF I2.n23
 have jj := eqF (Ne.symm I2.n23)
 have pa : (p2 = ya) = False := eqF (by rintro rfl; have := hz.symm.trans W.ha; cases this)
 have pb : (p2 = yb) = False := eqF (by rintro rfl; have := hz.symm.trans W.hb; cases this)
 have pc : (p2 = yc) = False := eqF (by rintro rfl; have := hz.symm.trans W.hc; cases this)
 have h3 : ∃ s, Zj (aH D) (Zs 3 Vi.code) ⟨s2, H2, n2, m⟩ = some (.ret ⟨s, upd H2 p2 (cT Z1 [Zf ya yb yc fa fb fc t]), n2, m⟩) /\ s 2 = .ptr p2 0 0 := by
  simp only [Vi, tlQ, Zs, go_sem, I2.s2, I2.s3, hz, hy, lm, pa, pb, pc]
  exact ⟨_, rfl, by simp only [go_sem, I2.s2]⟩
 obtain ⟨s3, h3, h4⟩ := h3
 rw [h3]
 refine ⟨Zf ya yb yc fa fb fc t, upd H2 p2 (cT Z1 [Zf ya yb yc fa fb fc t]), n2, ?_, ⟨ya, yb, yc, fa, fb, fc, rs, bx, rfl, TabW.mono ⟨W.ha, W.hb, W.hc, W.bx, W.rows, W.a1, W.a2, W.b1, W.b2, W.c1, W.c2⟩ (dO _) (dO _) (fun y k g1 g2 g3 g4 => ?_)⟩, ?_, by omega, fun b hb => ?_⟩
 . simp only [Vi, go_sem, h4]
 . rw [Z7, if_neg (by rintro rfl; rw [hz] at g3; cases g3; exact g4 rfl)]; exact g3
 . intro ty c' o l k e K h1 h2
   simp only [Zf, fF, fT, dM, A.ref.injEq] at h1
   obtain ⟨-, rfl, -⟩ := h1
   rw [Z7, if_neg (Ne.symm (of_eq_false pc))] at h2
   rw [W.hc] at h2
   cases h2
   exact Ds _ yc _ _ _ _ _ rfl W.hc
 . rw [Z7, if_neg (by omega)]; exact I2.low b hb
theorem Zq1 {D : Nat} (hD : 1 <= D) (x : List A) (t : Tab) (h : Hp) (m : Nat) (hx : TabG h 0 m x t) (hl : t.rows.length <= 100) (hvs : ∀ r ∈ t.rows, r.vals.length <= big) (hf : t.first.length <= big) (hg : t.chg.length <= big) :
 ∃ y h' n', dcl pr D Vp [.agg x] h m = some ([.agg y], h', n') /\ TabG h' m n' y t /\ m <= n' /\ ∀ b, b < m -> h' b = h b := by
 obtain ⟨y, h', n', e, W, -, hn, hl⟩ := Znd hD x t h m hx hl hvs hf hg
 exact ⟨y, h', n', e, W, hn, hl⟩
theorem RowsG.cl {h : Hp} {lo hi : Nat} {m : Nat} : ∀ {rs : List (List A)} {rows : List RowV}, RowsG h lo hi rs rows -> ∃ ns, Vr (clD h (m + 1)) rs = some (rows.map RowV.c, ns)
 | [], rows, R => by
   have := R.len
   obtain rfl : rows = [] := fE.1 this.symm
   exact ⟨[], rfl⟩
 | x :: rs, [], R => by have := R.len; simp at this
 | x :: rs, r :: rows, R => by
   obtain ⟨b, ex, h1, h2, h3, h4⟩ := R.at_ 0 r (by simp)
   simp at h1
   subst h1
   obtain ⟨ns, ih⟩ := RowsG.cl (m := m) (rs := rs) (rows := rows) ⟨by have := R.len; simpa using this, fun j r hr => by have := R.at_ (j + 1) r (by simpa using hr); simpa using this⟩
   unfold Vr
   rw [ih]
   have hr : Z5c (clD h (m + 1)) (Zhn r b ex) = some (r.c, [b]) := by
    show bnd (clD h (m + 1) (.n r.id)) _ = _
    rw [show clD h (m + 1) (.n r.id) = some (.n r.id, []) from rfl]
    show bnd (bnd (clD h (m + 1) (.n r.ver)) _) _ = _
    rw [show clD h (m + 1) (.n r.ver) = some (.n r.ver, []) from rfl]
    show bnd (bnd (bnd (clD h (m + 1) (cV Z2 b r.vals.length ex)) _) _) _ = _
    rw [Zze h2 rfl]
    rfl
   rw [hr]
   exact ⟨_, rfl⟩
theorem TabW.cl {h : Hp} {lo hi a b c : Nat} {rs : List (List A)} {bx : Bool} {t : Tab} (W : TabW h lo hi a b c rs bx t) (ea eb ec : Bool) : ∃ ns, Z5c (clD h 4) (Zf a b c ea eb ec t) = some (t.c, ns) := by
 have e1 : clD h 4 (cV Z0 a t.first.length ea) = some (.lit Z0 (t.first.map ColV.c), [a]) := by
  unfold clD; rw [W.ha]
  simp only [bnd, dF, dN, dO, if_true, cond_false, dI, dP (show (t.first.map ColV.c).length <= t.first.length by simp)]
 have e2 : clD h 4 (cV Z3 b t.chg.length eb) = some (.lit Z3 (t.chg.map Chg.c), [b]) := by
  unfold clD; rw [W.hb]
  simp only [bnd, dF, dN, dO, if_true, cond_false, dI, dP (show (t.chg.map Chg.c).length <= t.chg.length by simp)]
 have hl := W.rows.len
 have e3 : ∃ ns, clD h 4 (cV Z4 c t.rows.length ec) = some (.lit Z4 (t.rows.map RowV.c), ns) := by
  obtain ⟨ns, j0⟩ := W.rows.cl (m := 2)
  unfold clD; rw [W.hc]
  simp only [bnd, dF, hl, dO, if_true, dI, dP (show rs.length <= t.rows.length by omega)]
  cases bx with
  | true => rw [cond_true, j0]; exact ⟨_, rfl⟩
  | false =>
    have := W.bx.resolve_left (by decide)
    subst this
    have h0 : t.rows = [] := fE.1 hl.symm
    rw [h0]
    exact ⟨_, rfl⟩
 obtain ⟨ns, e3⟩ := e3
 refine ⟨[a] ++ ([b] ++ (ns ++ ([] ++ []))), ?_⟩
 unfold Z5c; rw [e1]
 unfold Z5c; rw [e2]
 unfold Z5c; rw [e3]
 unfold Z5c
 rw [show clD h 4 (.n t.next) = some (.n t.next, []) from rfl]
 rfl
theorem Zrq {D : Nat} (hD : 6 <= D) (cs : List ColV) (hs : Zl cs = true) : den pr D Y1p [.lit Z0 (cs.map ColV.c)] = some [.agg [.olit Z0 (cs.map ColV.c), .olit Z3 [], .olit Z4 [], .n 1]] := by
 obtain ⟨D, rfl, hd⟩ := Zc hD
 rw [Ybx]
 have e1 := Z0w (show 4 <= D by omega) cs (Yq hs).1
 rw [hs] at e1
 have hl := (Yq hs).2
 have j0 : cs.length <= big := by omega
 simp only [Y3q, go_sem, e1, j0, dN, dO]
end Go.Vm.T
namespace Go.Vm.T
open Go.Proofs
structure TI (t : Tab) : Prop where
 small : SmallT t
 shape : Zl t.first = true
 all : (chgs t.first t.chg).isSome = true
 now : ∀ r ∈ t.rows, NowOk t r
 rows : t.rows.length <= 8
 chg : t.chg.length <= 8
 n1 : 1 <= t.next
 n2 : t.next <= 60
structure TabR (lo m : Nat) (h : Hp) (y : List A) (n' : Nat) (h' : Hp) (y' : List A) : Prop where
 t : ∃ t', TabG h' lo n' y' t' /\ TI t'
 n : m <= n'
 nm : ∀ v ∈ Zg y', v ∈ Zg y \/ m <= v
 fr : ∀ v, v < m -> ¬ v ∈ Zg y -> h' v = h v
theorem TI.next {t : Tab} (T : TI t) {n : Int} (h1 : 1 <= n) (h2 : n <= 60) : TI { t with next := n } := ⟨⟨T.small.cols, T.small.clen, T.small.chg, T.small.glen, T.small.rlen, T.small.vals⟩, T.shape, T.all, fun r hr => by have := T.now r hr; exact ⟨this.lo, this.hi, this.all, this.len, this.vals⟩, T.rows, T.chg, h1, h2⟩
theorem TI.rowsOf {t : Tab} (T : TI t) {rs : List RowV} (hl : rs.length <= 8) (hr : ∀ r ∈ rs, NowOk t r /\ r.vals.length + 1 <= big) : TI { t with rows := rs } := ⟨⟨T.small.cols, T.small.clen, T.small.chg, T.small.glen, by show rs.length <= big; unfold big; omega, fun r h => ⟨(hr r h).1.vals, (hr r h).2⟩⟩, T.shape, T.all, fun r h => by have := (hr r h).1; exact ⟨this.lo, this.hi, this.all, this.len, this.vals⟩, hl, T.chg, T.n1, T.n2⟩
variable [Pr2]
theorem RowsG.off {h : Hp} {lo hi : Nat} {rs : List (List A)} {rows : List RowV} (R : RowsG h lo hi rs rows) (k : Nat) (hk : k < rows.length) : RowsG h lo hi (rs.take k ++ rs.drop (k + 1)) (rows.take k ++ rows.drop (k + 1)) := ⟨by simp [R.len], fun j r hr => by
 have hl := R.len
 by_cases hj : j < k
 . rw [dZ (by simp; omega), dB, if_pos hj] at hr
   obtain ⟨b, ex, q1, q2⟩ := R.at_ j r hr
   exact ⟨b, ex, by rw [dZ (by simp; omega), dB, if_pos hj]; exact q1, q2⟩
 . rw [eA (by simp; omega), eX] at hr
   have e : k + 1 + (j - (rows.take k).length) = k + 1 + (j - (rs.take k).length) := by simp [hl]
   rw [e] at hr
   obtain ⟨b, ex, q1, q2⟩ := R.at_ _ r hr
   exact ⟨b, ex, by rw [eA (by simp; omega), eX]; exact q1, q2⟩⟩
set_option maxHeartbeats 4000000 in
theorem Y3v {D : Nat} (hD : 2 <= D) (y : List A) (t : Tab) (T : TI t) (id : Int) (h : Hp) (lo m : Nat) (hlo : lo <= m) (hy : TabG h lo m y t) :
 ∃ y' q h' n', dcl pr D Z5r [.agg y, .n id] h m = some ([.agg y', .n q], h', n') /\ TabR lo m h y n' h' y' := by
 obtain ⟨D, rfl, hd⟩ := Zc hD
 rw [Zna]
 obtain ⟨a, b, c, ea, eb, ec, rs, bx, rfl, W⟩ := hy
 have h0 : ∃ s H, Zj (aH D) (hdQ (Zs 0 Z0c.code)) ⟨slots [.agg (Zf a b c ea eb ec t), .n id], h, m, m⟩ = some (.norm ⟨s, H, m + 5, m⟩) /\ s 1 = .n id /\ s 2 = .ptr m 0 0 /\ s 4 = .ptr (m + 1) 0 0 /\ H m = cT Z1 [Zf a b c ea eb ec t] /\ H (m + 1) = cT Z1 [Vd (m + 2) (m + 3) (m + 4) false false false] /\ ∀ y, y < m -> H y = h y := by
  simp only [Z0c, hdQ, Zs, go_sem]
  refine ⟨_, _, rfl, ?_, ?_, ?_, ?_, ?_, fun y hy => ?_⟩
  . simp only [go_sem]
  . simp only [go_sem]
  . simp only [go_sem]
  . simp only [go_sem]
  . simp only [go_sem]
  . have Y := Z8 hy
    simp only [go_sem, Y.a]
 obtain ⟨s0, H0, e0, a0, a1, a2, b1, b2, b3⟩ := h0
 have W0 : TabW H0 lo m a b c rs bx t := W.mono (dO _) (dO _) (fun y k _ h2 h3 _ => by rw [b3 y h2]; exact h3)
 obtain ⟨ns, j1⟩ := W0.cl ea eb ec
 have e2 := Y34 (show 1 <= D by omega) t id T.small.rlen
 have j5 := W.rows.len
 have j8 : rs.take t.rows.length = rs := dP (by omega)
 have ha := W0.ha; have hb := W0.hb; have hc := W0.hc
 have h1 : ∀ y : List A, y.length = 4 -> H0 m = cT Z1 [y] -> Z5c (clD H0 4) y = some (t.c, ns) -> Zj (aH D) (hdQ (Zs 1 Z0c.code)) ⟨s0, H0, m + 5, m⟩ = some (.norm ⟨upd (upd (upd (upd s0 7 (.agg y)) 8 (.n id)) 9 (.n (idI id t.rows))) 6 (.n (idI id t.rows)), H0, m + 5, m⟩) := fun y l4 hm j1 => by
  have j6 : y.take 4 = y := dP (by omega)
  simp only [Z0c, go_sem, a0, a1, hm, j1, l4, j6, e2, dO]
 have e1 := h1 _ rfl b1 j1
 have j2 := (Xz (C := Z0c.code) 0 e0 rfl).trans (Xz 1 e1 rfl)
 rw [show Zs 0 Z0c.code = Z0c.code from rfl] at j2
 rw [j2]
 have A := Z8 W.a2
 have B := Z8 W.b2
 have C := Z8 W.c2
 have w1 := W.a1; have w2 := W.b1; have w3 := W.c1
 have w4 := W.a2; have w5 := W.b2; have w6 := W.c2
 unfold idI
 cases hk : Zpj id t.rows with
 | none =>
   have m0 : (-1 : Int) < 0 := by decide
   refine ⟨Zf a b c ea eb ec t, 5, upd H0 (m + 1) (cT Z1 [Zf a b c ea eb ec t]), m + 5, ?_, ⟨⟨t, ⟨a, b, c, ea, eb, ec, rs, bx, rfl, W0.mono (dO _) (by omega) (fun y k g1 g2 g3 g4 => ?_)⟩, T⟩, by omega, fun v hv => .inl hv, fun v hv hn => ?_⟩⟩
   . simp only [Z0c, tlQ, Zs, go_sem, a1, a2, b1, b2, m0, A.k', B.k', C.k']
   . rw [Z7, if_neg (by omega)]; exact g3
   . rw [Z7, if_neg (by omega)]; exact b3 v hv
 | some k =>
   have k0 : ¬ (k : Int) < 0 := by omega
   have k1 := eP k
   have kt := eQ k
   have j4 := Zpe hk
   have T8 := T.rows
   have hw : IntKind.i64.wrap ((k : Int) + 1) = ((k + 1 : Nat) : Int) := Zk (by omega)
   have k2 : (0 : Int) <= ((k + 1 : Nat) : Int) := by omega
   have j3 : (((k + 1 : Nat) : Int)).toNat = k + 1 := by omega
   have k3 : k <= t.rows.length := by omega
   have k4 : k + 1 <= t.rows.length := by omega
   have kb : k <= big := by unfold big; omega
   have j7 : k + (t.rows.length - (k + 1)) <= big := by unfold big; omega
   have j9 : imp bx true = true := by cases bx <;> rfl
   have l1 : (rs.drop (k + 1)).take (t.rows.length - (k + 1)) = rs.drop (k + 1) := dP (by simp; omega)
   have l2 : (rs.take k).length = k := by simp; omega
   have l3 : (rs.drop (k + 1)).length = t.rows.length - (k + 1) := by simp; omega
   have l4 : (rs.take k).take k = rs.take k := dP (by simp; omega)
   have l5 : k + 1 + (t.rows.length - (k + 1)) = t.rows.length := by omega
   have q5 : (m + 5 == m) = false := eD.2 (by omega)
   have hx : ∃ s H, Zj (aH D) (Zs 2 Z0c.code) ⟨upd (upd (upd (upd s0 7 (.agg (Zf a b c ea eb ec t))) 8 (.n id)) 9 (.n (k : Int))) 6 (.n (k : Int)), H0, m + 5, m⟩ = some (.ret ⟨s, H, m + 8, m⟩) /\ s 4 = .ptr (m + 1) 0 0 /\ s 5 = .n 0 /\ H (m + 1) = cT Z1 [[cV Z0 a t.first.length ea, cV Z3 b t.chg.length eb, .ref Z4 (m + 7) 0 (k + (t.rows.length - (k + 1))) (k + (t.rows.length - (k + 1))) false, .n t.next]] /\ H (m + 7) = some ⟨Z4, rs.take k ++ rs.drop (k + 1), true, true⟩ /\ ∀ v, v < m -> H v = h v := by
    simp only [Z0c, tlQ, Zs, go_sem, a1, a2, b1, b2, hc, j5, k0, k1, kt, hw, k2, j3, k3, k4, kb, j7, l1, l2, l3, l4, l5, A.k', B.k', C.a, dO, dG, fL, dF, fQ, fJ, Bool.or_false, and_self, if_true, q5, ite_self]
    refine ⟨_, _, rfl, ?_, ?_, ?_, ?_, fun v hv => ?_⟩
    . simp only [go_sem, a2]
    . simp only [go_sem]
    . simp only [go_sem]
    . simp only [go_sem]
    . have Y := Z8 hv
      simp only [go_sem, Y.a]
      exact b3 v hv
   obtain ⟨s, H, hx, x1, x2, x3, x4, x5⟩ := hx
   rw [hx]
   have j0 : (t.rows.take k ++ t.rows.drop (k + 1)).length = k + (t.rows.length - (k + 1)) := by simp; omega
   refine ⟨[cV Z0 a t.first.length ea, cV Z3 b t.chg.length eb, .ref Z4 (m + 7) 0 (k + (t.rows.length - (k + 1))) (k + (t.rows.length - (k + 1))) false, .n t.next], 0, H, m + 8, ?_, ⟨⟨{ t with rows := t.rows.take k ++ t.rows.drop (k + 1) }, ⟨a, b, m + 7, ea, eb, false, rs.take k ++ rs.drop (k + 1), true, ?_, ?_⟩, T.rowsOf (by rw [j0]; omega) (fun r hr => ?_)⟩, by omega, fun v hv => ?_, fun v hv hn => x5 v hv⟩⟩
   . simp only [Z0c, go_sem, x1, x2, x3]
   . simp only [Zf, j0]
   . refine ⟨by rw [x5 a W.a2]; exact W.ha, by rw [x5 b W.b2]; exact W.hb, x4, .inl rfl, (W.rows.off k j4).mono (dO _) (by omega) (fun y k g1 g2 g3 g4 => by rw [x5 y g2]; exact g3), by omega, by omega, by omega, by omega, by omega, by omega⟩
   . have : r ∈ t.rows := by
      rcases dW.1 hr with hr | hr
      . exact fC hr
      . exact eS hr
     exact ⟨T.now r this, (T.small.vals r this).2⟩
   . have : v = a \/ v = b \/ v = m + 7 := by simpa [Zg, Yb, Yk] using hv
     rcases this with rfl | rfl | rfl
     . exact .inl (by simp [Zg, Yb, Yk])
     . exact .inl (by simp [Zg, Yb, Yk])
     . exact .inr (by omega)
end Go.Vm.T
namespace Go.Vm.T
open Go.Proofs
variable [Pr2]
theorem TI.sh {t : Tab} (T : TI t) : SmallC (Z9 t) /\ (Z9 t).length + 1 <= big := by
 have j0 := T.all
 unfold Z9
 cases hq : chgs t.first t.chg with
 | none => rw [hq] at j0; cases j0
 | some s' => exact Z2c ⟨T.small.cols, T.small.clen⟩ hq
theorem TI.fresh {t : Tab} (T : TI t) (id : Int) {vs : List Val} (hl : vs.length = (Z9 t).length) (hv : V9 vs) : NowOk t ⟨id, t.chg.length, vs⟩ /\ vs.length + 1 <= big := by
 have h2 := T.sh.2
 refine ⟨⟨by simp only; omega, by simp only; omega, T.all, ?_, hv⟩, by omega⟩
 simp only [eQ, List.take_length]
 exact hl
theorem RowsG.more {h : Hp} {lo hi : Nat} {rs : List (List A)} {rows : List RowV} (R : RowsG h lo hi rs rows) {r : RowV} {b : Nat} {ex : Bool} (hb : h b = cU Z2 (r.vals.map Val.c)) (h1 : lo <= b) (h2 : b < hi) : RowsG h lo hi (rs ++ [Zhn r b ex]) (rows ++ [r]) := R.snoc hb h1 h2
set_option maxHeartbeats 4000000 in
theorem Y5l {D : Nat} (hD : 11 <= D) (y : List A) (t : Tab) (T : TI t) (l : List SetV) (hls : SmallS l) (hll : l.length <= 21) (h : Hp) (lo m q cp : Nat) (ex : Bool) (hlo : lo <= m) (hy : TabG h lo m y t) (hq : q < m) (hs : h q = cU Zh (l.map SetV.c)) :
 ∃ y' v h' n', dcl pr D Z5u [.agg y, .ref Zh q 0 l.length cp ex] h m = some ([.agg y', .n v], h', n') /\ TabR lo m h y n' h' y' := by
 obtain ⟨D, rfl, hd⟩ := Zc hD
 rw [Zla]
 obtain ⟨a, b, c, ea, eb, ec, rs, bx, rfl, W⟩ := hy
 have h0 : ∃ s H, Zj (aH D) (hdQ (Zs 0 Yo.code)) ⟨slots [.agg (Zf a b c ea eb ec t), .ref Zh q 0 l.length cp ex], h, m, m⟩ = some (.norm ⟨s, H, m + 5, m⟩) /\ s 1 = .ref Zh q 0 l.length cp ex /\ s 2 = .ptr m 0 0 /\ s 4 = .ptr (m + 1) 0 0 /\ H m = cT Z1 [Zf a b c ea eb ec t] /\ H (m + 1) = cT Z1 [Vd (m + 2) (m + 3) (m + 4) false false false] /\ ∀ y, y < m -> H y = h y := by
  simp only [Yo, hdQ, Zs, go_sem]
  refine ⟨_, _, rfl, ?_, ?_, ?_, ?_, ?_, fun y hy => ?_⟩
  . simp only [go_sem]
  . simp only [go_sem]
  . simp only [go_sem]
  . simp only [go_sem]
  . simp only [go_sem]
  . have Y := Z8 hy
    simp only [go_sem, Y.a]
 obtain ⟨s0, H0, e0, a0, a1, a2, b1, b2, b3⟩ := h0
 have W0 : TabW H0 lo m a b c rs bx t := W.mono (dO _) (dO _) (fun y k _ h2 h3 _ => by rw [b3 y h2]; exact h3)
 obtain ⟨ns, j6⟩ := W0.cl ea eb ec
 have e2 := Z2l (show 9 <= D by omega) t T.small T.shape
 have jh := T.sh
 have jq := jh.2
 have h1 : ∀ y : List A, y.length = 4 -> H0 m = cT Z1 [y] -> Z5c (clD H0 4) y = some (t.c, ns) -> ∃ s, Zj (aH D) (hdQ (Zs 1 Yo.code)) ⟨s0, H0, m + 5, m⟩ = some (.norm ⟨s, upd H0 (m + 5) (some ⟨Z0, (Z9 t).map ColV.c, true, false⟩), m + 6, m⟩) /\ s 1 = .ref Zh q 0 l.length cp ex /\ s 2 = .ptr m 0 0 /\ s 4 = .ptr (m + 1) 0 0 /\ s 6 = .ref Z0 (m + 5) 0 (Z9 t).length (Z9 t).length false := fun y l4 hm j6 => by
  have je : y.take 4 = y := dP (by omega)
  simp only [Yo, go_sem, a1, hm, j6, l4, je, e2, Za, dN, dO]
  refine ⟨_, rfl, ?_, ?_, ?_, ?_⟩
  . simp only [go_sem, a0]
  . simp only [go_sem, a1]
  . simp only [go_sem, a2]
  . simp only [go_sem]
 obtain ⟨s1, e1, c0, c1, c2, c3⟩ := h1 _ rfl b1 j6
 have e3 := Zzs (show 1 <= D by omega) (Z9 t) jq
 have j8 : ((Z9 t).map ColV.df).length = (Z9 t).length := by simp
 have e4 := Zps (show 3 <= D by omega) (Z9 t) (by omega) ((Z9 t).map ColV.df) j8 l hls (by unfold big; omega)
 have ju : V9 ((Z9 t).map ColV.df) := fun v hv => by
  obtain ⟨c, hc, rfl⟩ := List.mem_map.1 hv
  exact (jh.1.txt c hc).2
 obtain ⟨j7, ja⟩ := Zf5 (s := Z9 t) (row := (Z9 t).map ColV.df) hls ju
 rw [j8] at j7
 generalize hfv : Zkw (Z9 t) ((Z9 t).map ColV.df) l = fv at *
 obtain ⟨vs, ok⟩ := fv
 simp only at j7 ja e4
 generalize (Z9 t).map ColV.df = ds at *
 have jj : (ds.map Val.c).take (Z9 t).length = ds.map Val.c := by rw [<- j8]; exact Zb _ _
 have jd := Zb ColV.c (Z9 t)
 have hlt := Zb SetV.c l
 have Q := Z8 hq
 have jo : H0 q = cU Zh (l.map SetV.c) := by rw [b3 q hq]; exact hs
 have h2 : ∃ s H, Zj (aH D) (hdQ (Zs 2 Yo.code)) ⟨s1, upd H0 (m + 5) (some ⟨Z0, (Z9 t).map ColV.c, true, false⟩), m + 6, m⟩ = some (.norm ⟨s, H, m + 8, m⟩) /\ s 2 = .ptr m 0 0 /\ s 4 = .ptr (m + 1) 0 0 /\ s 7 = cV Z2 (m + 7) vs.length false /\ s 8 = .q ok /\ H (m + 7) = cU Z2 (vs.map Val.c) /\ ∀ y, y < m + 5 -> H y = H0 y := by
  simp only [Yo, go_sem, c0, c3, e3, e4, jo, jd, hlt, Q.k, Zp, j8, jj, dN, dO]
  refine ⟨_, _, rfl, ?_, ?_, ?_, ?_, ?_, fun y hy => ?_⟩
  . simp only [go_sem, c1]
  . simp only [go_sem, c2]
  . simp only [go_sem]
  . simp only [go_sem]
  . simp only [go_sem]
  . have y5 : (y = m + 5) = False := eq_false (by omega)
    have y6 : (y = m + 6) = False := eq_false (by omega)
    have y7 : (y = m + 7) = False := eq_false (by omega)
    simp only [go_sem, y5, y6, y7]
 obtain ⟨s2, H2, e5, d1, d2, d3, d4, g1, g2⟩ := h2
 have j5 := ((Xz (C := Yo.code) 0 e0 rfl).trans (Xz 1 e1 rfl)).trans (Xz 2 e5 rfl)
 rw [show Zs 0 Yo.code = Yo.code from rfl] at j5
 rw [j5]
 have RA := Z8 W.a2
 have RB := Z8 W.b2
 have RC := Z8 W.c2
 have w1 := W.a1; have w2 := W.b1; have w3 := W.c1
 have w4 := W.a2; have w5 := W.b2; have w6 := W.c2
 have jf : H2 m = cT Z1 [Zf a b c ea eb ec t] := by rw [g2 m (by omega)]; exact b1
 have jg : H2 (m + 1) = cT Z1 [Vd (m + 2) (m + 3) (m + 4) false false false] := by rw [g2 (m + 1) (by omega)]; exact b2
 have j2 : ∀ v, v < m -> H2 v = h v := fun v hv => by rw [g2 v (by omega)]; exact b3 v hv
 have W2 : TabW H2 lo m a b c rs bx t := W.mono (dO _) (dO _) (fun y k _ h2 h3 _ => by rw [j2 y h2]; exact h3)
 have back : ∀ (s : Nat -> A) (H : Hp) (n : Nat) (v : Int), s 4 = .ptr (m + 1) 0 0 -> s 5 = .n v -> m <= n -> (∀ y, y < m -> H y = h y) -> ∃ y' v' h' n', Zo9 Yo.res ⟨s, upd H (m + 1) (cT Z1 [Zf a b c ea eb ec t]), n, m⟩ = some ([.agg y', .n v'], h', n') /\ TabR lo m h (Zf a b c ea eb ec t) n' h' y' := fun s H n v h4 h5 hn hH => by
  refine ⟨Zf a b c ea eb ec t, v, upd H (m + 1) (cT Z1 [Zf a b c ea eb ec t]), n, ?_, ⟨⟨t, ⟨a, b, c, ea, eb, ec, rs, bx, rfl, W.mono (dO _) hn (fun y k _ q2 q3 _ => ?_)⟩, T⟩, hn, fun v hv => .inl hv, fun v hv _ => ?_⟩⟩
  . simp only [Yo, go_sem, h4, h5]
  . rw [Z7, if_neg (by omega), hH y q2]; exact q3
  . rw [Z7, if_neg (by omega)]; exact hH v hv
 cases ok with
 | false =>
   have hx : ∃ s, Zj (aH D) (Zs 3 Yo.code) ⟨s2, H2, m + 8, m⟩ = some (.ret ⟨s, upd H2 (m + 1) (cT Z1 [Zf a b c ea eb ec t]), m + 8, m⟩) /\ s 4 = .ptr (m + 1) 0 0 /\ s 5 = .n 1 := by
    simp only [Yo, tlQ, Zs, go_sem, d1, d2, d4, jf, jg, RA.k', RB.k', RC.k']
    exact ⟨_, rfl, by simp only [go_sem, d2], by simp only [go_sem]⟩
   obtain ⟨s, hx, x4, x5⟩ := hx
   rw [hx]
   exact back s H2 (m + 8) 1 x4 x5 (by omega) j2
 | true =>
   have hx : ∃ s H, Zj (aH D) (Zs 3 Yo.code) ⟨s2, H2, m + 8, m⟩ = Zj (aH D) (Zs 5 Yo.code) ⟨s, H, m + 11, m⟩ /\ s 2 = .ptr m 0 0 /\ s 4 = .ptr (m + 1) 0 0 /\ s 9 = .ptr (m + 9) 0 0 /\ H (m + 9) = cT Z4 [[.n t.next, .n t.chg.length, cV Z2 (m + 7) vs.length false]] /\ H (m + 7) = cU Z2 (vs.map Val.c) /\ ∀ y, y < m + 5 -> H y = H2 y := by
    have q3 : ∃ s, Zj (aH D) (hdQ (Zs 3 Yo.code)) ⟨s2, H2, m + 8, m⟩ = some (.norm ⟨s, H2, m + 8, m⟩) /\ s 2 = .ptr m 0 0 /\ s 4 = .ptr (m + 1) 0 0 /\ s 7 = cV Z2 (m + 7) vs.length false := by
     simp only [Yo, go_sem, d4]
     exact ⟨_, rfl, by simp only [go_sem, d1], by simp only [go_sem, d2], by simp only [go_sem, d3]⟩
    obtain ⟨s3, q3, f1, f2, f3⟩ := q3
    have q4 : ∃ s H, Zj (aH D) (hdQ (Zs 4 Yo.code)) ⟨s3, H2, m + 8, m⟩ = some (.norm ⟨s, H, m + 11, m⟩) /\ s 2 = .ptr m 0 0 /\ s 4 = .ptr (m + 1) 0 0 /\ s 9 = .ptr (m + 9) 0 0 /\ H (m + 9) = cT Z4 [[.n t.next, .n t.chg.length, cV Z2 (m + 7) vs.length false]] /\ H (m + 7) = cU Z2 (vs.map Val.c) /\ ∀ y, y < m + 5 -> H y = H2 y := by
     simp only [Yo, go_sem, f1, f3, jf, g1]
     refine ⟨_, _, rfl, ?_, ?_, ?_, ?_, ?_, fun y hy => ?_⟩
     . simp only [go_sem, f1]
     . simp only [go_sem, f2]
     . simp only [go_sem]
     . simp only [go_sem]
     . simp only [go_sem, g1]
     . have y8 : (y = m + 8) = False := eq_false (by omega)
       have y9 : (y = m + 9) = False := eq_false (by omega)
       have jm : (y = m + 10) = False := eq_false (by omega)
       simp only [go_sem, y8, y9, jm]
    obtain ⟨s4, H4, q4, r⟩ := q4
    exact ⟨s4, H4, (Xz 3 q3 rfl).trans (Xz 4 q4 rfl), r⟩
   obtain ⟨s4, H4, hx, f1, f2, f3, g3, g4, g5⟩ := hx
   rw [hx]
   have j0 : H4 m = cT Z1 [Zf a b c ea eb ec t] := by rw [g5 m (by omega)]; exact jf
   have j1 : H4 (m + 1) = cT Z1 [Vd (m + 2) (m + 3) (m + 4) false false false] := by rw [g5 (m + 1) (by omega)]; exact jg
   have j4 : ∀ v, v < m -> H4 v = h v := fun v hv => by rw [g5 v (by omega)]; exact j2 v hv
   have W4 : TabW H4 lo m a b c rs bx t := W.mono (dO _) (dO _) (fun y k _ h2 h3 _ => by rw [j4 y h2]; exact h3)
   obtain ⟨jr, jc⟩ := W4.cl ea eb ec
   have ji := Zb Val.c vs
   have e6 := Zpx (show 10 <= D by omega) t T.small T.shape T.all T.now (by have := T.rows; omega) ⟨t.next, t.chg.length, vs⟩ j7 ja
   have j9 : Y7f t ⟨t.next, t.chg.length, vs⟩ = Y7f t ⟨t.next, t.chg.length, vs⟩ := rfl
   generalize Y7f t ⟨t.next, t.chg.length, vs⟩ = cv at e6 j9
   have h5 : ∀ y : List A, y.length = 4 -> H4 m = cT Z1 [y] -> Z5c (clD H4 4) y = some (t.c, jr) -> ∃ s, Zj (aH D) (hdQ (Zs 5 Yo.code)) ⟨s4, H4, m + 11, m⟩ = some (.norm ⟨s, H4, m + 11, m⟩) /\ s 2 = .ptr m 0 0 /\ s 4 = .ptr (m + 1) 0 0 /\ s 9 = .ptr (m + 9) 0 0 /\ s 10 = .n cv := fun y l4 hm j6 => by
    have je : y.take 4 = y := dP (by omega)
    simp only [Yo, go_sem, f1, f3, hm, j6, l4, je, g3, g4, ji, e6, dN, dO]
    exact ⟨_, rfl, by simp only [go_sem, f1], by simp only [go_sem, f2], by simp only [go_sem, f3], by simp only [go_sem]⟩
   obtain ⟨s5, e7, f1, f2, f3, f4⟩ := h5 _ rfl j0 jc
   rw [Xz 5 e7 rfl]
   have j3 : ∀ w : Int, (∃ s, Zj (aH D) (Zs 6 Yo.code) ⟨s5, H4, m + 11, m⟩ = some (.ret ⟨s, upd H4 (m + 1) (cT Z1 [Zf a b c ea eb ec t]), m + 11, m⟩) /\ s 4 = .ptr (m + 1) 0 0 /\ s 5 = .n w) -> ∃ y' v h' n', Zbk (Zj (aH D) (Zs 6 Yo.code) ⟨s5, H4, m + 11, m⟩) (Zo9 Yo.res) = some ([.agg y', .n v], h', n') /\ TabR lo m h (Zf a b c ea eb ec t) n' h' y' := fun w hw => by
    obtain ⟨s, hx, x4, x5⟩ := hw
    rw [hx]
    exact back s H4 (m + 11) w x4 x5 (by omega) j4
   by_cases c0 : cv = 0
   . subst c0
     by_cases r8 : (8 : Int) <= (t.rows.length : Int)
     . have q8 := eq_true r8
       refine j3 4 ?_
       simp only [Yo, tlQ, Zs, go_sem, f1, f2, f4, j0, j1, q8, RA.k', RB.k', RC.k']
       exact ⟨_, rfl, by simp only [go_sem, f2], by simp only [go_sem]⟩
     . have q8 := eq_false r8
       by_cases n60 : 60 <= t.next
       . have jb := eq_true n60
         refine j3 4 ?_
         simp only [Yo, tlQ, Zs, go_sem, f1, f2, f4, j0, j1, q8, jb, RA.k', RB.k', RC.k']
         exact ⟨_, rfl, by simp only [go_sem, f2], by simp only [go_sem]⟩
       . have jb := eq_false n60
         have N1 := T.n1
         have T8 := T.rows
         have jt := W.rows.len
         have jp : rs.take t.rows.length = rs := dP (by omega)
         have jw : imp bx true = true := by cases bx <;> rfl
         have jv : t.rows.length + 1 <= big := by unfold big; omega
         have js := W4.hc
         have jn : IntKind.i64.wrap (t.next + 1) = t.next + 1 := wrap_i64 (by omega) (by omega)
         have hx : ∃ s H, Zj (aH D) (Zs 6 Yo.code) ⟨s5, H4, m + 11, m⟩ = some (.ret ⟨s, H, m + 13, m⟩) /\ s 4 = .ptr (m + 1) 0 0 /\ s 5 = .n 0 /\ H (m + 1) = cT Z1 [[cV Z0 a t.first.length ea, cV Z3 b t.chg.length eb, .ref Z4 (m + 12) 0 (t.rows.length + 1) (t.rows.length + 1) false, .n (t.next + 1)]] /\ H (m + 12) = some ⟨Z4, rs ++ [[.n t.next, .n t.chg.length, cV Z2 (m + 7) vs.length false]], true, true⟩ /\ H (m + 7) = cU Z2 (vs.map Val.c) /\ ∀ v, v < m -> ¬ v = c -> H v = h v := by
          simp only [Yo, tlQ, Zs, go_sem, f1, f2, f3, f4, j0, j1, g3, js, q8, jb, jt, jp, jv, jn, dO, RA.k', RB.k', RC.a]
          refine ⟨_, _, rfl, ?_, ?_, ?_, ?_, ?_, fun v hv jl => ?_⟩
          . simp only [go_sem, f2]
          . simp only [go_sem]
          . simp only [go_sem]
          . simp only [go_sem, RC.k']
          . simp only [go_sem, g4, RC.k']
          . have Y := Z8 hv
            simp only [go_sem, jl, Y.a]
            exact j4 v hv
         obtain ⟨s, H, hx, x1, x2, x3, x4, x5, x6⟩ := hx
         rw [hx]
         have hF := T.fresh t.next j7 ja
         have T' : TI { t with rows := t.rows ++ [⟨t.next, t.chg.length, vs⟩], next := t.next + 1 } := TI.next (t := { t with rows := t.rows ++ [⟨t.next, t.chg.length, vs⟩] }) (T.rowsOf (by simp; omega) (fun r hr => by
          rcases dW.1 hr with hr | hr
          . exact ⟨T.now r hr, (T.small.vals r hr).2⟩
          . rw [dX] at hr; subst hr; exact hF)) (by omega) (by omega)
         have ac : ¬ a = c := by rintro rfl; have := W.ha.symm.trans W.hc; cases this
         have bc : ¬ b = c := by rintro rfl; have := W.hb.symm.trans W.hc; cases this
         refine ⟨[cV Z0 a t.first.length ea, cV Z3 b t.chg.length eb, .ref Z4 (m + 12) 0 (t.rows.length + 1) (t.rows.length + 1) false, .n (t.next + 1)], 0, H, m + 13, ?_, ⟨⟨_, ⟨a, b, m + 12, ea, eb, false, rs ++ [Zhn ⟨t.next, t.chg.length, vs⟩ (m + 7) false], true, ?_, ?_⟩, T'⟩, by omega, fun v hv => ?_, fun v hv hn => x6 v hv (fun e => hn (by subst e; simp [Zg, Yb, Yk]))⟩⟩
         . simp only [Yo, go_sem, x1, x2, x3]
         . simp only [Zf, eE, eF, eG]
         . refine ⟨by rw [x6 a W.a2 ac]; exact W.ha, by rw [x6 b W.b2 bc]; exact W.hb, x4, .inl rfl, (W.rows.mono (dO _) (by omega) (fun y k g1 g2 g3 g4 => ?_)).snoc x5 (by omega) (by omega), by omega, by omega, by omega, by omega, by omega, by omega⟩
           rw [x6 y g2 (by rintro rfl; have := g3.symm.trans W.hc; cases this; cases g4)]; exact g3
         . have : v = a \/ v = b \/ v = m + 12 := by simpa [Zg, Yb, Yk] using hv
           rcases this with rfl | rfl | rfl
           . exact .inl (by simp [Zg, Yb, Yk])
           . exact .inl (by simp [Zg, Yb, Yk])
           . exact .inr (by omega)
   . have q0 := eq_false c0
     refine j3 cv ?_
     simp only [Yo, tlQ, Zs, go_sem, f1, f2, f4, j0, j1, q0, RA.k', RB.k', RC.k']
     exact ⟨_, rfl, by simp only [go_sem, f2], by simp only [go_sem]⟩
theorem RowsG.set {h : Hp} {lo hi : Nat} {rs : List (List A)} {rows : List RowV} (R : RowsG h lo hi rs rows) (k : Nat) {r : RowV} {b : Nat} {ex : Bool} (hb : h b = cU Z2 (r.vals.map Val.c)) (h1 : lo <= b) (h2 : b < hi) : RowsG h lo hi (rs.set k (Zhn r b ex)) (rows.set k r) := ⟨by simp [R.len], fun j x hx => by
 have hl := R.len
 by_cases hj : k = j
 . subst hj
   have hjl : k < rows.length := by have := (dU.1 hx).1; simpa using this
   rw [gI hjl] at hx
   cases hx
   exact ⟨b, ex, by rw [gI (by omega)], hb, h1, h2⟩
 . rw [List.getElem?_set_ne hj] at hx
   obtain ⟨b', e', q1, q2⟩ := R.at_ j x hx
   exact ⟨b', e', by rw [List.getElem?_set_ne hj]; exact q1, q2⟩⟩
set_option maxHeartbeats 4000000 in
theorem Zvd {D : Nat} (hD : 11 <= D) (y : List A) (t : Tab) (T : TI t) (id : Int) (l : List SetV) (hls : SmallS l) (hll : l.length <= 21) (h : Hp) (lo m q cp : Nat) (ex : Bool) (hlo : lo <= m) (hy : TabG h lo m y t) (hq : q < m) (hs : h q = cU Zh (l.map SetV.c)) :
 ∃ y' v h' n', dfl pr D Z39 [.agg y, .n id, .ref Zh q 0 l.length cp ex] h m = some ([.agg y', .n v], h', n') /\ TabR lo m h y n' h' y' := by
 obtain ⟨D, rfl, hd⟩ := Zc hD
 rw [Zkp]
 obtain ⟨a, b, c, ea, eb, ec, rs, bx, rfl, W⟩ := hy
 have h0 : ∃ s H, Zj (aH D) (hdQ (Zs 0 X0.code)) ⟨slots [.agg (Zf a b c ea eb ec t), .n id, .ref Zh q 0 l.length cp ex], h, m, 0⟩ = some (.norm ⟨s, H, m + 5, 0⟩) /\ s 1 = .n id /\ s 2 = .ref Zh q 0 l.length cp ex /\ s 3 = .ptr m 0 0 /\ s 6 = .ptr (m + 1) 0 0 /\ H m = cT Z1 [Zf a b c ea eb ec t] /\ H (m + 1) = cT Z1 [Vd (m + 2) (m + 3) (m + 4) false false false] /\ ∀ y, y < m -> H y = h y := by
  simp only [X0, hdQ, Zs, go_sem]
  refine ⟨_, _, rfl, ?_, ?_, ?_, ?_, ?_, ?_, fun y hy => ?_⟩
  . simp only [go_sem]
  . simp only [go_sem]
  . simp only [go_sem]
  . simp only [go_sem]
  . simp only [go_sem]
  . simp only [go_sem]
  . have Y := Z8 hy
    simp only [go_sem, Y.a]
 obtain ⟨s0, H0, e0, a0, aq, a1, a2, b1, b2, b3⟩ := h0
 have W0 : TabW H0 lo m a b c rs bx t := W.mono (dO _) (dO _) (fun y k _ h2 h3 _ => by rw [b3 y h2]; exact h3)
 obtain ⟨ns, j7⟩ := W0.cl ea eb ec
 have e2 := Y34 (show 1 <= D by omega) t id T.small.rlen
 have h1 : ∀ y : List A, y.length = 4 -> H0 m = cT Z1 [y] -> Z5c (clD H0 4) y = some (t.c, ns) -> ∃ s, Zj (aH D) (hdQ (Zs 1 X0.code)) ⟨s0, H0, m + 5, 0⟩ = some (.norm ⟨s, H0, m + 5, 0⟩) /\ s 1 = .n id /\ s 2 = .ref Zh q 0 l.length cp ex /\ s 3 = .ptr m 0 0 /\ s 6 = .ptr (m + 1) 0 0 /\ s 8 = .n (idI id t.rows) := fun y l4 hm j7 => by
  have jf : y.take 4 = y := dP (by omega)
  simp only [X0, go_sem, a0, a1, hm, j7, l4, jf, e2, dO]
  exact ⟨_, rfl, by simp only [go_sem, a0], by simp only [go_sem, aq], by simp only [go_sem, a1], by simp only [go_sem, a2], by simp only [go_sem]⟩
 obtain ⟨s1, e1, c0, cq, c1, c2, c3⟩ := h1 _ rfl b1 j7
 have jj := (Xz (C := X0.code) 0 e0 rfl).trans (Xz 1 e1 rfl)
 rw [show Zs 0 X0.code = X0.code from rfl] at jj
 rw [jj]
 have RA := Z8 W.a2
 have RB := Z8 W.b2
 have RC := Z8 W.c2
 have w1 := W.a1; have w2 := W.b1; have w3 := W.c1
 have w4 := W.a2; have w5 := W.b2; have w6 := W.c2
 have back : ∀ (s : Nat -> A) (H : Hp) (n : Nat) (v : Int), s 6 = .ptr (m + 1) 0 0 -> s 7 = .n v -> m <= n -> (∀ y, y < m -> H y = h y) -> ∃ y' v' h' n', Zo9 X0.res ⟨s, upd H (m + 1) (cT Z1 [Zf a b c ea eb ec t]), n, 0⟩ = some ([.agg y', .n v'], h', n') /\ TabR lo m h (Zf a b c ea eb ec t) n' h' y' := fun s H n v h4 h5 hn hH => by
  refine ⟨Zf a b c ea eb ec t, v, upd H (m + 1) (cT Z1 [Zf a b c ea eb ec t]), n, ?_, ⟨⟨t, ⟨a, b, c, ea, eb, ec, rs, bx, rfl, W.mono (dO _) hn (fun y k _ q2 q3 _ => ?_)⟩, T⟩, hn, fun v hv => .inl hv, fun v hv _ => ?_⟩⟩
  . simp only [X0, go_sem, h4, h5]
  . rw [Z7, if_neg (by omega), hH y q2]; exact q3
  . rw [Z7, if_neg (by omega)]; exact hH v hv
 unfold idI at c3
 cases hk : Zpj id t.rows with
 | none =>
   rw [hk] at c3
   simp only at c3
   have m0 : (-1 : Int) < 0 := by decide
   have hx : ∃ s, Zj (aH D) (Zs 2 X0.code) ⟨s1, H0, m + 5, 0⟩ = some (.ret ⟨s, upd H0 (m + 1) (cT Z1 [Zf a b c ea eb ec t]), m + 5, 0⟩) /\ s 6 = .ptr (m + 1) 0 0 /\ s 7 = .n 5 := by
    simp only [X0, tlQ, Zs, go_sem, c1, c2, c3, b1, b2, m0, RA.k', RB.k', RC.k']
    exact ⟨_, rfl, by simp only [go_sem, c2], by simp only [go_sem]⟩
   obtain ⟨s, hx, x4, x5⟩ := hx
   rw [hx]
   exact back s H0 (m + 5) 5 x4 x5 (by omega) b3
 | some k =>
   rw [hk] at c3
   simp only at c3
   have k0 : ¬ (k : Int) < 0 := by omega
   have jb := Zpe hk
   have jl := W.rows.len
   have ju : bx = true := W.bx.resolve_right (by rintro rfl; simp at jl; omega)
   subst ju
   have jc : t.rows[k]? = some t.rows[k] := dS jb
   have j5 := dY jc
   generalize t.rows[k] = r at jc j5
   obtain ⟨v, ev, j6, jp, v1, v2⟩ := W.rows.at_ k r jc
   have RV := Z8 v2
   have RQ := Z8 hq
   have ha := W0.ha; have hb := W0.hb; have hc := W0.hc
   have jw : H0 v = cU Z2 (r.vals.map Val.c) := by rw [b3 v v2]; exact jp
   have jr : H0 q = cU Zh (l.map SetV.c) := by rw [b3 q hq]; exact hs
   have hN := T.now r j5
   have e3 := Z2l (show 9 <= D by omega) t T.small T.shape
   have e4 := Zce (show 9 <= D by omega) t T.small T.shape r hN
   have jz := T.sh
   have k4 := jz.2
   have j8 := Z3o hN
   have jy : V9 (Wf t r) := Z4x hN.vals (fun c hc => T.small.chg c (eS hc))
   have e5 := Zps (show 3 <= D by omega) (Z9 t) (by omega) (Wf t r) j8 l hls (by unfold big; omega)
   obtain ⟨j9, ja⟩ := Zf5 (s := Z9 t) (row := Wf t r) hls jy
   rw [j8] at j9
   generalize hfv : Zkw (Z9 t) (Wf t r) l = fv at *
   obtain ⟨vs, ok⟩ := fv
   simp only at j9 ja e5
   generalize Wf t r = row at *
   have k2 : (row.map Val.c).take (Z9 t).length = row.map Val.c := by rw [<- j8]; exact Zb _ _
   have je := Zb ColV.c (Z9 t)
   have hlt := Zb SetV.c l
   have jo := Zb Val.c r.vals
   have k3 := Zb ColV.c t.first
   have js := Zb Chg.c t.chg
   have jt : rs.take t.rows.length = rs := dP (by omega)
   obtain ⟨nr, ji⟩ := W0.rows.cl (m := 2)
   obtain ⟨k5, j4⟩ := (W0.rows.mono (h' := upd H0 (m + 5) (some ⟨Z0, (Z9 t).map ColV.c, true, false⟩)) (dO _) (dO _) (fun y k g1 g2 g3 g4 => by rw [Z7, if_neg (by omega)]; exact g3)).cl (m := 2)
   simp only [Nat.reduceAdd] at ji j4
   have k1 := eP k
   have kt := eQ k
   have h2 : ∃ s, Zj (aH D) (hdQ (Zs 2 X0.code)) ⟨s1, H0, m + 5, 0⟩ = some (.norm ⟨s, H0, m + 5, 0⟩) /\ s 1 = .n id /\ s 2 = .ref Zh q 0 l.length cp ex /\ s 3 = .ptr m 0 0 /\ s 6 = .ptr (m + 1) 0 0 /\ s 8 = .n k := by
    simp only [X0, go_sem, c3, k0]
    exact ⟨_, rfl, by simp only [go_sem, c0], by simp only [go_sem, cq], by simp only [go_sem, c1], by simp only [go_sem, c2], by simp only [go_sem, c3]⟩
   obtain ⟨s2, e6, c0, cq, c1, c2, c3⟩ := h2
   have h3 : ∃ s H, Zj (aH D) (hdQ (Zs 3 X0.code)) ⟨s2, H0, m + 5, 0⟩ = some (.norm ⟨s, H, m + 8, 0⟩) /\ s 1 = .n id /\ s 3 = .ptr m 0 0 /\ s 6 = .ptr (m + 1) 0 0 /\ s 8 = .n k /\ s 9 = cV Z2 (m + 7) vs.length false /\ s 10 = .q ok /\ H (m + 7) = cU Z2 (vs.map Val.c) /\ ∀ y, y < m + 5 -> H y = H0 y := by
    simp only [X0, go_sem, cq, c1, c3, b1, ha, hb, hc, jw, jr, j6, jb, e3, e4, e5, ji, j4, jt, jl, k2, je, hlt, jo, k3, js, k1, kt, RA.k, RB.k, RC.k, RQ.k, RV.k, Za, Zp, j8, dN, dO]
    refine ⟨_, _, rfl, ?_, ?_, ?_, ?_, ?_, ?_, ?_, fun y hy => ?_⟩
    . simp only [go_sem, c0]
    . simp only [go_sem, c1]
    . simp only [go_sem, c2]
    . simp only [go_sem, c3]
    . simp only [go_sem]
    . simp only [go_sem]
    . simp only [go_sem]
    . have y5 : (y = m + 5) = False := eq_false (by omega)
      have y6 : (y = m + 6) = False := eq_false (by omega)
      have y7 : (y = m + 7) = False := eq_false (by omega)
      simp only [go_sem, y5, y6, y7]
   obtain ⟨s3, H2, e7, d0, d1, d2, d3, d4, d5, g1, g2⟩ := h3
   rw [Xz 2 e6 rfl, Xz 3 e7 rfl]
   have jg : H2 m = cT Z1 [Zf a b c ea eb ec t] := by rw [g2 m (by omega)]; exact b1
   have jh : H2 (m + 1) = cT Z1 [Vd (m + 2) (m + 3) (m + 4) false false false] := by rw [g2 (m + 1) (by omega)]; exact b2
   have j2 : ∀ v, v < m -> H2 v = h v := fun v hv => by rw [g2 v (by omega)]; exact b3 v hv
   cases ok with
   | false =>
     have hx : ∃ s, Zj (aH D) (Zs 4 X0.code) ⟨s3, H2, m + 8, 0⟩ = some (.ret ⟨s, upd H2 (m + 1) (cT Z1 [Zf a b c ea eb ec t]), m + 8, 0⟩) /\ s 6 = .ptr (m + 1) 0 0 /\ s 7 = .n 1 := by
      simp only [X0, tlQ, Zs, go_sem, d1, d2, d5, jg, jh, RA.k', RB.k', RC.k']
      exact ⟨_, rfl, by simp only [go_sem, d2], by simp only [go_sem]⟩
     obtain ⟨s, hx, x4, x5⟩ := hx
     rw [hx]
     exact back s H2 (m + 8) 1 x4 x5 (by omega) j2
   | true =>
     have hx : ∃ s H, Zj (aH D) (Zs 4 X0.code) ⟨s3, H2, m + 8, 0⟩ = Zj (aH D) (Zs 6 X0.code) ⟨s, H, m + 11, 0⟩ /\ s 3 = .ptr m 0 0 /\ s 6 = .ptr (m + 1) 0 0 /\ s 8 = .n k /\ s 11 = .ptr (m + 9) 0 0 /\ H (m + 9) = cT Z4 [[.n id, .n t.chg.length, cV Z2 (m + 7) vs.length false]] /\ H (m + 7) = cU Z2 (vs.map Val.c) /\ ∀ y, y < m + 5 -> H y = H2 y := by
      have q3 : ∃ s, Zj (aH D) (hdQ (Zs 4 X0.code)) ⟨s3, H2, m + 8, 0⟩ = some (.norm ⟨s, H2, m + 8, 0⟩) /\ s 1 = .n id /\ s 3 = .ptr m 0 0 /\ s 6 = .ptr (m + 1) 0 0 /\ s 8 = .n k /\ s 9 = cV Z2 (m + 7) vs.length false := by
       simp only [X0, go_sem, d5]
       exact ⟨_, rfl, by simp only [go_sem, d0], by simp only [go_sem, d1], by simp only [go_sem, d2], by simp only [go_sem, d3], by simp only [go_sem, d4]⟩
      obtain ⟨s4, q3, f0, f1, f2, f3, f4⟩ := q3
      have q4 : ∃ s H, Zj (aH D) (hdQ (Zs 5 X0.code)) ⟨s4, H2, m + 8, 0⟩ = some (.norm ⟨s, H, m + 11, 0⟩) /\ s 3 = .ptr m 0 0 /\ s 6 = .ptr (m + 1) 0 0 /\ s 8 = .n k /\ s 11 = .ptr (m + 9) 0 0 /\ H (m + 9) = cT Z4 [[.n id, .n t.chg.length, cV Z2 (m + 7) vs.length false]] /\ H (m + 7) = cU Z2 (vs.map Val.c) /\ ∀ y, y < m + 5 -> H y = H2 y := by
       simp only [X0, go_sem, f0, f1, f4, jg, g1]
       refine ⟨_, _, rfl, ?_, ?_, ?_, ?_, ?_, ?_, fun y hy => ?_⟩
       . simp only [go_sem, f1]
       . simp only [go_sem, f2]
       . simp only [go_sem, f3]
       . simp only [go_sem]
       . simp only [go_sem]
       . simp only [go_sem, g1]
       . have y8 : (y = m + 8) = False := eq_false (by omega)
         have y9 : (y = m + 9) = False := eq_false (by omega)
         have jq : (y = m + 10) = False := eq_false (by omega)
         simp only [go_sem, y8, y9, jq]
      obtain ⟨s5, H4, q4, r⟩ := q4
      exact ⟨s5, H4, (Xz 4 q3 rfl).trans (Xz 5 q4 rfl), r⟩
     obtain ⟨s4, H4, hx, f1, f2, f3, f4, g3, g4, g5⟩ := hx
     rw [hx]
     have j0 : H4 m = cT Z1 [Zf a b c ea eb ec t] := by rw [g5 m (by omega)]; exact jg
     have j3 : H4 (m + 1) = cT Z1 [Vd (m + 2) (m + 3) (m + 4) false false false] := by rw [g5 (m + 1) (by omega)]; exact jh
     have j1 : ∀ v, v < m -> H4 v = h v := fun v hv => by rw [g5 v (by omega)]; exact j2 v hv
     have W4 : TabW H4 lo m a b c rs true t := W.mono (dO _) (dO _) (fun y k _ h2 h3 _ => by rw [j1 y h2]; exact h3)
     obtain ⟨jv, jd⟩ := W4.cl ea eb ec
     have jm := Zb Val.c vs
     have e8 := Zpx (show 10 <= D by omega) t T.small T.shape T.all T.now (by have := T.rows; omega) ⟨id, t.chg.length, vs⟩ j9 ja
     generalize Y7f t ⟨id, t.chg.length, vs⟩ = cv at e8
     have h5 : ∀ y : List A, y.length = 4 -> H4 m = cT Z1 [y] -> Z5c (clD H4 4) y = some (t.c, jv) -> ∃ s, Zj (aH D) (hdQ (Zs 6 X0.code)) ⟨s4, H4, m + 11, 0⟩ = some (.norm ⟨s, H4, m + 11, 0⟩) /\ s 3 = .ptr m 0 0 /\ s 6 = .ptr (m + 1) 0 0 /\ s 8 = .n k /\ s 11 = .ptr (m + 9) 0 0 /\ s 12 = .n cv := fun y l4 hm j7 => by
      have jf : y.take 4 = y := dP (by omega)
      simp only [X0, go_sem, f1, f4, hm, j7, l4, jf, g3, g4, jm, e8, dN, dO]
      exact ⟨_, rfl, by simp only [go_sem, f1], by simp only [go_sem, f2], by simp only [go_sem, f3], by simp only [go_sem, f4], by simp only [go_sem]⟩
     obtain ⟨s5, e9, f1, f2, f3, f4, f5⟩ := h5 _ rfl j0 jd
     rw [Xz 6 e9 rfl]
     by_cases c0' : cv = 0
     . subst c0'
       have jx := W4.hc
       have hx : ∃ s H, Zj (aH D) (Zs 7 X0.code) ⟨s5, H4, m + 11, 0⟩ = some (.ret ⟨s, H, m + 11, 0⟩) /\ s 6 = .ptr (m + 1) 0 0 /\ s 7 = .n 0 /\ H (m + 1) = cT Z1 [Zf a b c ea eb ec t] /\ H c = some ⟨Z4, rs.set k [.n id, .n t.chg.length, cV Z2 (m + 7) vs.length false], true, true⟩ /\ H (m + 7) = cU Z2 (vs.map Val.c) /\ ∀ v, v < m -> ¬ v = c -> H v = h v := by
        simp only [X0, tlQ, Zs, go_sem, f1, f2, f3, f4, f5, j0, j3, g3, jx, j6, jb, k1, kt, RA.k', RB.k', RC.a, dO]
        refine ⟨_, _, rfl, ?_, ?_, ?_, ?_, ?_, fun v hv jn => ?_⟩
        . simp only [go_sem, f2]
        . simp only [go_sem]
        . simp only [go_sem]
        . simp only [go_sem, RC.k]
        . simp only [go_sem, g4, RC.k']
        . have Y := Z8 hv
          simp only [go_sem, jn, Y.k]
          exact j1 v hv
       obtain ⟨s, H, hx, x1, x2, x3, x4, x5, x6⟩ := hx
       rw [hx]
       have hF := T.fresh id j9 ja
       have T' : TI { t with rows := t.rows.set k ⟨id, t.chg.length, vs⟩ } := T.rowsOf (by rw [dK]; exact T.rows) (fun r hr => by
        rcases fB hr with hr | rfl
        . exact ⟨T.now r hr, (T.small.vals r hr).2⟩
        . exact hF)
       have ac : ¬ a = c := by rintro rfl; have := W.ha.symm.trans W.hc; cases this
       have bc : ¬ b = c := by rintro rfl; have := W.hb.symm.trans W.hc; cases this
       refine ⟨Zf a b c ea eb ec t, 0, H, m + 11, ?_, ⟨⟨_, ⟨a, b, c, ea, eb, ec, rs.set k (Zhn ⟨id, t.chg.length, vs⟩ (m + 7) false), true, ?_, ?_⟩, T'⟩, by omega, fun v hv => .inl hv, fun v hv hn => x6 v hv (fun e => hn (by subst e; simp [Zg, Yb, Yk]))⟩⟩
       . simp only [X0, go_sem, x1, x2, x3]
       . simp only [Zf, dK]
       . refine ⟨by rw [x6 a W.a2 ac]; exact W.ha, by rw [x6 b W.b2 bc]; exact W.hb, x4, .inl rfl, (W.rows.mono (dO _) (by omega) (fun y k g1 g2 g3 g4 => ?_)).set k x5 (by omega) (by omega), by omega, by omega, by omega, by omega, by omega, by omega⟩
         rw [x6 y g2 (by rintro rfl; have := g3.symm.trans W.hc; cases this; cases g4)]; exact g3
     . have q0 := eq_false c0'
       have hx : ∃ s, Zj (aH D) (Zs 7 X0.code) ⟨s5, H4, m + 11, 0⟩ = some (.ret ⟨s, upd H4 (m + 1) (cT Z1 [Zf a b c ea eb ec t]), m + 11, 0⟩) /\ s 6 = .ptr (m + 1) 0 0 /\ s 7 = .n cv := by
        simp only [X0, tlQ, Zs, go_sem, f1, f2, f5, j0, j3, q0, RA.k', RB.k', RC.k']
        exact ⟨_, rfl, by simp only [go_sem, f2], by simp only [go_sem]⟩
       obtain ⟨s, hx, x4, x5⟩ := hx
       rw [hx]
       exact back s H4 (m + 11) cv x4 x5 (by omega) j1
end Go.Vm.T
namespace Go.Vm.T
open Go.Proofs
theorem TI.chgd {t : Tab} (T : TI t) {c : Chg} (hc : SmallG c) (hok : (Z72 (Z9 t) c).2 = true) (h8 : t.chg.length <= 8) : (chgs t.first (t.chg ++ [c])).isSome = true /\ SmallT { t with chg := t.chg ++ [c] } /\ ∀ r ∈ t.rows, NowOk { t with chg := t.chg ++ [c] } r := by
 have j0 := T.all
 have e : (chgs t.first (t.chg ++ [c])).isSome = true := by
  rw [Zdh]
  unfold Z9 at hok
  cases hq : chgs t.first t.chg with
  | none => rw [hq] at j0; cases j0
  | some s' =>
    rw [hq] at hok
    simp only [dD] at hok ⊢
    rw [Z4u, if_pos hok, Zdi]
    rfl
 refine ⟨e, ⟨T.small.cols, T.small.clen, fun x hx => ?_, by simp only [eE, eF, eG]; unfold big; omega, T.small.rlen, T.small.vals⟩, fun r hr => ?_⟩
 . rcases dW.1 hx with hx | hx
   . exact T.small.chg x hx
   . rw [dX] at hx; subst hx; exact hc
 . have N := T.now r hr
   have hl := N.lo
   have hh := N.hi
   refine ⟨N.lo, by simp only [eE, eF, eG]; omega, e, ?_, N.vals⟩
   simp only [List.take_append_of_le_length (show r.ver.toNat <= t.chg.length by omega)]
   exact N.len
variable [Pr2]
structure ChI (H0 : Hp) (m : Nat) (y : List A) (t : Tab) (sl : Nat) (S : List ColV) (i : Nat) (s : Nat -> A) (h : Hp) (n p1 p2 p3 p4 : Nat) : Prop where
 s1 : s 2 = .ptr p1 0 0
 s2 : s 4 = .ptr p2 0 0
 s3 : s 8 = .ptr p3 0 0
 s4 : ∃ ex, s 9 = cV Z0 p4 S.length ex
 s5 : s 10 = .n i
 l1 : m <= p1 /\ p1 < n
 l2 : m <= p2 /\ p2 < n
 l3 : m <= p3 /\ p3 < n
 l4 : m <= p4 /\ p4 < n
 n12 : ¬ p1 = p2
 n13 : ¬ p1 = p3
 n23 : ¬ p2 = p3
 h1 : h p1 = cT Z1 [y]
 h2 : ∃ z, h p2 = cT Z1 [z] /\ ZI h m n z
 h3 : ∃ x, h p3 = cT Z1 [x] /\ TabG h m n x t
 h4 : ∃ ow, h p4 = some ⟨Z0, S.map ColV.c, ow, false⟩
 low : ∀ b, b < m -> h b = H0 b
theorem ChI.head {H0 : Hp} {m : Nat} {y : List A} {t t0 : Tab} {sl : Nat} {S : List ColV} {i : Nat} {s' : Nat -> A} {H : Hp} {n p1 p2 p3 p4 : Nat} (hx : TabG H0 0 m y t0) (I : ChI H0 m y t sl S i s' H n p1 p2 p3 p4) :
 ∃ q1 q2 q3 q4 ns, Go.Vm.canon [2, 4, 8, 9, 10] ⟨s', H, n, m⟩ = some ⟨Xr m ns s' (fun _ => .bad) [2, 4, 8, 9, 10], Z8u m H ns, m + ns.length, m⟩ /\ ChI H0 m y t sl S i (Xr m ns s' (fun _ => .bad) [2, 4, 8, 9, 10]) (Z8u m H ns) (m + ns.length) q1 q2 q3 q4 := by
 obtain ⟨ax, bx_, cx, jh, jd, je, jl, ji, rfl, X⟩ := hx
 obtain ⟨z, j2, Z'⟩ := I.h2
 obtain ⟨y, j7, Y'⟩ := I.h3
 obtain ⟨ow, j8⟩ := I.h4
 obtain ⟨jc, t4⟩ := I.s4
 have j3 := I.h1
 have t1 := I.s1; have t2 := I.s2; have t3 := I.s3; have t5 := I.s5
 have i1 := I.l1; have i2 := I.l2; have i3 := I.l3; have i4 := I.l4
 have jb := X.a2; have j9 := X.b2; have x2 := X.c2
 obtain ⟨ns, j4, j5, AN⟩ := Zf0 (L := [2, 4, 8, 9, 10]) (U := ⟨s', H, n, m⟩) (fun v hv b1 j0 ja b2 j6 jg => by
  rcases Xc.1 hv with hv | ⟨j, hj, hv, jn⟩
  . cases hv
  . have : v = p1 \/ v = p2 \/ v = p3 \/ v = p4 := by
     simp only [eK, fU, or_false] at hj
     rcases hj with rfl | rfl | rfl | rfl | rfl
     . left; simpa [t1, Yb, Yk] using hv
     . right; left; simpa [t2, Yb, Yk] using hv
     . right; right; left; simpa [t3, Yb, Yk] using hv
     . right; right; right; simpa [t4, Yb, Yk] using hv
     . simp [t5, Yb, Yk] at hv
    rcases this with rfl | rfl | rfl | rfl
    . exfalso
      have j1 : b1 = ax \/ b1 = bx_ \/ b1 = cx := by
       unfold below at j0
       simp only [j3] at j0
       simpa [Zn, Zg, Yb, Yk] using j0
      simp only at ja
      rcases j1 with rfl | rfl | rfl <;> omega
    . have j1 : b1 ∈ Zg z := by
       unfold below at j0
       simp only [j2] at j0
       simpa [Zn] using j0
      have := Z'.deep j1
      simp only at j6
      rw [this] at j6; cases j6
    . have j1 : b1 ∈ Zg y := by
       unfold below at j0
       simp only [j7] at j0
       simpa [Zn] using j0
      exact (Y'.deep j1).2 b2 j6
    . exfalso
      simp only at j0
      rw [Z9v j8 rfl] at j0
      cases j0)
 simp only at j4 j5 AN
 have m1 : p1 ∈ ns := j5 p1 (Xc.2 (.inr ⟨2, by simp, by simp [t1, Yb, Yk], by omega⟩))
 have m2 : p2 ∈ ns := j5 p2 (Xc.2 (.inr ⟨4, by simp, by simp [t2, Yb, Yk], by omega⟩))
 have m3 : p3 ∈ ns := j5 p3 (Xc.2 (.inr ⟨8, by simp, by simp [t3, Yb, Yk], by omega⟩))
 have m4 : p4 ∈ ns := j5 p4 (Xc.2 (.inr ⟨9, by simp, by simp [t4, Yb, Yk], by omega⟩))
 refine ⟨nw m ns p1, nw m ns p2, nw m ns p3, nw m ns p4, ns, j4, ?_⟩
 refine ⟨by simp [Xr, Z7, t1, ren, Zk8], by simp [Xr, Z7, t2, ren, Zk8], by simp [Xr, Z7, t3, ren, Zk8], ⟨jc, by simp [Xr, Z7, t4, ren, Zk8]⟩, by simp [Xr, Z7, t5, ren, Zk8], ⟨AN.ge' m1, AN.lt p1 m1⟩, ⟨AN.ge' m2, AN.lt p2 m2⟩, ⟨AN.ge' m3, AN.lt p3 m3⟩, ⟨AN.ge' m4, AN.lt p4 m4⟩, fun e => I.n12 (AN.inj p1 m1 p2 m2 e), fun e => I.n13 (AN.inj p1 m1 p3 m3 e), fun e => I.n23 (AN.inj p2 m2 p3 m3 e), ?_, ⟨Zdb m ns z, ?_, Z'.anew AN ?_⟩, ⟨Zdb m ns y, ?_, ?_⟩, ⟨ow, ?_⟩, fun w hw => ?_⟩
 . rw [AN.at_ p1 m1, j3]
   simp only [fG, Z41, if_true, fO, dJ, Z9l, Zdr jb, Zdr j9, Zdr x2]
 . rw [AN.at_ p2 m2, j2]; rfl
 . exact fun b hb => AN.sub p2 m2 b (by unfold below; rw [j2]; simpa [Zn] using hb) (by
    obtain ⟨za, zb, zc, jm, jj, jf, rfl, Z'⟩ := Z'
    exact (Z' b (by simpa [Zg, Yb, Yk] using hb)).1)
 . rw [AN.at_ p3 m3, j7]; rfl
 . exact Y'.anew AN (fun b hb => AN.sub p3 m3 b (by unfold below; rw [j7]; simpa [Zn] using hb) (Y'.deep hb).1)
 . rw [AN.at_ p4 m4, j8]; rfl
 . rw [Zb9 hw]
   exact I.low w hw
end Go.Vm.T
namespace Go.Vm.T
open Go.Proofs
variable [Pr2]
set_option maxHeartbeats 4000000 in
theorem Ze8 {D : Nat} (hD : 9 <= D) (H0 : Hp) (m : Nat) (y : List A) (t t0 : Tab) (hy : TabG H0 0 m y t0) (ht : SmallT t) (hs : Zl t.first = true) (hn : ∀ r ∈ t.rows, NowOk t r) (hl : t.rows.length <= 8) (S : List ColV) (hS : SmallC S) : ∀ (r i : Nat) (K : Nat) (s : Nat -> A) (h : Hp) (n p1 p2 p3 p4 : Nat), i + r = t.rows.length -> r < K -> ChI H0 m y t 0 S i s h n p1 p2 p3 p4 ->
 (∃ s' h' n' p1 p2 p3 p4, Zd (Zj (aH D) Z95) [2, 4, 8, 9, 10] K ⟨s, h, n, m⟩ = some (.exit 0 ⟨s', h', n', m⟩) /\ ChI H0 m y t 0 S t.rows.length s' h' n' p1 p2 p3 p4) \/
 (∃ s' h' n' p2, Zd (Zj (aH D) Z95) [2, 4, 8, 9, 10] K ⟨s, h, n, m⟩ = some (.ret ⟨s', h', n', m⟩) /\ s' 4 = .ptr p2 0 0 /\ s' 5 = .n 2 /\ h' p2 = cT Z1 [y] /\ m <= n' /\ ∀ b, b < m -> h' b = H0 b)
 | 0, i, K, s, h, n, p1, p2, p3, p4, hi, hK, I => by
   obtain ⟨K, rfl⟩ : ∃ j, K = j + 1 := ⟨K - 1, by omega⟩
   left
   have js : i = t.rows.length := by omega
   subst js
   have hlt : ¬ t.rows.length < t.rows.length := eL _
   obtain ⟨x, hx, X⟩ := I.h3
   obtain ⟨a, b, c, ea, eb, ec, rs, bx, rfl, W⟩ := X
   have s1 := I.s1; have s2 := I.s2; have s3 := I.s3; have s5 := I.s5
   obtain ⟨j3, s4⟩ := I.s4
   have step : ∃ s', Zd (Zj (aH D) Z95) [2, 4, 8, 9, 10] (K + 1) ⟨s, h, n, m⟩ = some (.exit 0 ⟨s', h, n, m⟩) /\ s' 2 = s 2 /\ s' 4 = s 4 /\ s' 8 = s 8 /\ s' 9 = s 9 /\ s' 10 = s 10 := by
    simp only [Zd, Znj, Zev, go_sem, s3, s5, hx, hlt]
    exact ⟨_, rfl, by simp only [go_sem], by simp only [go_sem], by simp only [go_sem]; try exact s3, by simp only [go_sem], by simp only [go_sem]; try exact s5⟩
   obtain ⟨s', e0, e1, e2, e3, e4, e5⟩ := step
   exact ⟨s', h, n, p1, p2, p3, p4, e0, ⟨e1.trans s1, e2.trans s2, e3.trans s3, ⟨j3, e4.trans s4⟩, e5.trans s5, I.l1, I.l2, I.l3, I.l4, I.n12, I.n13, I.n23, I.h1, I.h2, ⟨_, hx, a, b, c, ea, eb, ec, rs, bx, rfl, W⟩, I.h4, I.low⟩⟩
 | r + 1, i, K, s, h, n, p1, p2, p3, p4, hi, hK, I => by
   obtain ⟨K, rfl⟩ : ∃ j, K = j + 1 := ⟨K - 1, by omega⟩
   have hlt : i < t.rows.length := by omega
   have hw := Zk (n := i) (by omega)
   obtain ⟨x, hx, X⟩ := I.h3
   obtain ⟨a, b, c, ea, eb, ec, rs, bx, rfl, W⟩ := X
   have s1 := I.s1; have s2 := I.s2; have s3 := I.s3; have s5 := I.s5
   obtain ⟨j3, s4⟩ := I.s4
   obtain ⟨ow, h4⟩ := I.h4
   have j6 := W.rows.len
   have jn : bx = true := W.bx.resolve_right (by rintro rfl; simp at j6; omega)
   subst jn
   have j8 : t.rows[i]? = some t.rows[i] := dS hlt
   have j1 := dY j8
   generalize t.rows[i] = rr at j8 j1
   obtain ⟨v, ev, j2, ja, v1, v2⟩ := W.rows.at_ i rr j8
   have ha := W.ha; have hb := W.hb; have hc := W.hc
   have hN := hn rr j1
   have e4 := Zce hD t ht hs rr hN
   have jp : V9 (Wf t rr) := Z4x hN.vals (fun c hc => ht.chg c (eS hc))
   have jr := Z3o hN
   obtain ⟨ss, ju, q1, q2, q3⟩ := hN.then_
   have jt : (Wf t rr).length <= big := by
    rw [jr]
    unfold Z9
    rw [q3]
    have := (Z2c ⟨ht.cols, ht.clen⟩ q3).2
    simp only [dD]
    omega
   have e5 := Z5v (show 5 <= D by omega) S (Wf t rr) hS jp jt
   generalize Wf t rr = row at *
   have jh := Zb Val.c row
   have jc := Zb ColV.c S
   have j9 := Zb Val.c rr.vals
   have ji := Zb ColV.c t.first
   have jd := Zb Chg.c t.chg
   have je : rs.take t.rows.length = rs := dP (by omega)
   obtain ⟨nr, j5⟩ := W.rows.cl (m := 2)
   simp only [Nat.reduceAdd] at j5
   have R4 := Z8 I.l4.2
   generalize (Zl S && Z5e S row) = qok at e5
   cases qok with
   | true =>
     have step : ∃ s', Zj (aH D) Z95 ⟨s, h, n, m⟩ = some (.norm ⟨s', upd h n (cU Z2 (row.map Val.c)), n + 1, m⟩) /\ s' 2 = .ptr p1 0 0 /\ s' 4 = .ptr p2 0 0 /\ s' 8 = .ptr p3 0 0 /\ s' 9 = cV Z0 p4 S.length j3 /\ s' 10 = .n ((i + 1 : Nat) : Int) := by
      simp only [Znj, Zev, go_sem, s1, s2, s3, s4, s5, hx, ha, hb, hc, h4, ja, j2, hlt, hw, e4, e5, j5, je, j6, jh, jc, j9, ji, jd, R4.a, Zp, dN, dO]
      exact ⟨_, rfl, by simp only [go_sem, s1], by simp only [go_sem, s2], by simp only [go_sem, s3], by simp only [go_sem, s4], by simp only [go_sem]⟩
     obtain ⟨s', jf, t1, t2, t3, t4, t5⟩ := step
     obtain ⟨z, hz, Z⟩ := I.h2
     have i1 := I.l1; have i2 := I.l2; have i3 := I.l3; have i4 := I.l4
     have up : ∀ v, v < n -> upd h n (cU Z2 (row.map Val.c)) v = h v := fun v hv => by rw [Z7, if_neg (by omega)]
     have I' : ChI H0 m y t 0 S (i + 1) s' (upd h n (cU Z2 (row.map Val.c))) (n + 1) p1 p2 p3 p4 := by
      refine ⟨t1, t2, t3, ⟨j3, t4⟩, t5, by omega, by omega, by omega, by omega, I.n12, I.n13, I.n23, by rw [up p1 (by omega)]; exact I.h1, ⟨z, by rw [up p2 (by omega)]; exact hz, ?_⟩, ⟨_, by rw [up p3 (by omega)]; exact hx, a, b, c, ea, eb, ec, rs, true, rfl, W.mono (dO _) (by omega) (fun y k _ g2 g3 _ => by rw [up y g2]; exact g3)⟩, ⟨ow, by rw [up p4 (by omega)]; exact h4⟩, fun b hb => by rw [up b (by omega)]; exact I.low b hb⟩
      obtain ⟨za, zb, zc, jj, jg, jb, rfl, Z⟩ := Z
      refine ⟨za, zb, zc, jj, jg, jb, rfl, fun v hv => ?_⟩
      obtain ⟨z1, z2, z3⟩ := Z v hv
      exact ⟨z1, by omega, fun k hk => z3 k (by rw [up v z2] at hk; exact hk)⟩
     obtain ⟨q1, q2, q3, q4, ns, j0, jq⟩ := I'.head hy
     rcases Ze8 hD H0 m y t t0 hy ht hs hn hl S hS r (i + 1) K _ _ _ _ _ _ _ (by omega) (by omega) jq with ⟨s'', j4, n'', r1, r2, r3, r4, j7, J⟩ | ⟨s'', j4, n'', r2, j7, J⟩
     . exact .inl ⟨s'', j4, n'', r1, r2, r3, r4, by rw [Z9r jf j0]; exact j7, J⟩
     . exact .inr ⟨s'', j4, n'', r2, by rw [Z9r jf j0]; exact j7, J⟩
   | false =>
     right
     obtain ⟨z, hz, Z⟩ := I.h2
     obtain ⟨za, zb, zc, jj, jg, jb, rfl, Z⟩ := Z
     obtain ⟨ax, bx_, cx, jo, jl, jm, jw, jv, rfl, X⟩ := hy
     have i1 := I.l1; have i2 := I.l2; have i3 := I.l3; have i4 := I.l4
     have xa := X.a2; have xb := X.b2; have xc := X.c2
     have h1 := I.h1
     have pa : (p2 = ax) = False := eqF (by omega)
     have pb : (p2 = bx_) = False := eqF (by omega)
     have pc : (p2 = cx) = False := eqF (by omega)
     have lm : (p2 < m) = False := eq_false (by omega)
     have R1 := Z8 I.l1.2
     have R2 := Z8 I.l2.2
     have step : ∃ s' h' n', Zd (Zj (aH D) Z95) [2, 4, 8, 9, 10] (K + 1) ⟨s, h, n, m⟩ = some (.ret ⟨s', h', n', m⟩) /\ s' 4 = .ptr p2 0 0 /\ s' 5 = .n 2 /\ h' p2 = cT Z1 [Zf ax bx_ cx jo jl jm t0] /\ n <= n' /\ ∀ b, b < m -> h' b = h b := by
      simp only [Zd, Znj, Zev, go_sem, s1, s2, s3, s4, s5, hx, ha, hb, hc, h4, hz, h1, ja, j2, hlt, e4, e5, j5, je, j6, jh, jc, j9, ji, jd, pa, pb, pc, lm, R1.e, R2.e, R4.a, Zp, dN, dO]
      refine ⟨_, _, _, rfl, by simp only [go_sem, s2], by simp only [go_sem], by simp only [go_sem], by omega, fun b hb => ?_⟩
      have b1 : (b = p2) = False := eqF (by omega)
      have b2 : (b = n) = False := eqF (by omega)
      simp only [go_sem, b1, b2]
     obtain ⟨s', h', n', e1, e2, e3, e4, e5, e6⟩ := step
     exact ⟨s', h', n', p2, e1, e2, e3, e4, by omega, fun b hb => by rw [e6 b hb]; exact I.low b hb⟩
end Go.Vm.T
end
