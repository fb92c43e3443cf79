/-
  What is asked, of both; the law, statement by statement
-/
import Derived.Test.YtcceojmajfinpaaGreatDoorFnsJ
import Derived.Test.YtcceojmajfinpaaGreatDoorFnsA
import Derived.WideShapes
import Derived.Test.YtcceojmajfinpaaGreatDoorFnsK
section
set_option linter.unusedVariables false
set_option linter.unusedSimpArgs false
set_option linter.unusedSectionVars false
namespace Go.Vm.T
open Go.Proofs
variable [Pr2]
end Go.Vm.T
namespace Go.Vm.T
open Go.Proofs
abbrev Yb1 : List A := [.s ⟨#[]⟩, .n 0, .n 0, .n 0, .s ⟨#[]⟩]
variable [Pr2]
end Go.Vm.T
namespace Go.Vm.T
open Go.Proofs
def hdS : ACode -> ACode
 | .sq a _ => a
 | c => c
def tlS : ACode -> ACode
 | .sq _ b => b
 | c => c
def Zyc : Nat -> ACode -> ACode
 | 0, c => c
 | n + 1, c => tlS (Zyc n c)
attribute [go_sem] hdS tlS Zyc
theorem Y7r {E : Env} {C : ACode} {U U' : St} (i : Nat) (h : Zj E (hdS (Zyc i C)) U = some (.norm U')) (hC : Zyc i C = .sq (hdS (Zyc i C)) (Zyc (i + 1) C)) : Zj E (Zyc i C) U = Zj E (Zyc (i + 1) C) U' := by
 rw [hC]
 show Zh2 (Zj E (hdS (Zyc i C)) U) (fun O => Zj E (Zyc (i + 1) C) O) = _
 rw [h]
 rfl
variable [Pr2]
theorem TabH.upd {h : Hp} {a b c k : Nat} {t : Tab} {x : Option Blk} (H : TabH h a b c t) (ha : ¬ a = k) (hb : ¬ b = k) (hc : k < c \/ c + t.rows.length < k) : TabH (Go.Vm.upd h k x) a b c t := by
 refine ⟨by rw [Z7, if_neg ha]; exact H.cols, by rw [Z7, if_neg hb]; exact H.chgs, by rw [Z7, if_neg (by omega)]; exact H.rows.top, fun j r hr => ?_⟩
 have hj := (dU.1 hr).1
 rw [Z7, if_neg (by omega)]
 exact H.rows.vals j r hr
end Go.Vm.T
namespace Go.Vm.T
open Go.Proofs
variable [Pr2]
theorem TabH.low {h h' : Hp} {a b c n : Nat} {t : Tab} (H : TabH h a b c t) (k : ∀ x, x < n -> h' x = h x) (ab : a < b) (bc : b < c) (cn : c + t.rows.length < n) : TabH h' a b c t := by
 refine ⟨by rw [k a (by omega)]; exact H.cols, by rw [k b (by omega)]; exact H.chgs, by rw [k c (by omega)]; exact H.rows.top, fun j r hr => ?_⟩
 have hj := (dU.1 hr).1
 rw [k _ (by omega)]
 exact H.rows.vals j r hr
end Go.Vm.T
namespace Go.Vm.T
variable [Pr0]
theorem Zwx {D : Nat} (es : List Int) (hl : es.length <= big) :
 Vg (Zd (Zj (aH D) Z4w) [0, 1, 5] rounds ⟨upd (upd (upd (fun _ => .bad) 0 (.lit Wd (es.map Zbu))) 1 (.lit Wd (es.map Zbu))) 5 (.n (0 : Nat)), fun _ => none, 0, 0⟩) Unit Unit (Zv (fun _ _ _ => .inl ()) 0 () es)
  (fun m o => ∃ U', o = .exit 0 U') (fun _ o => False) := by
 refine Zt es (fun i (_ : Unit) => ⟨upd (upd (upd (fun _ => .bad) 0 (.lit Wd (es.map Zbu))) 1 (.lit Wd (es.map Zbu))) 5 (.n i), fun _ => none, 0, 0⟩) _ (fun _ _ => True) _ _ () trivial hl (fun i m e K hc hlt hi => ?_) (fun m K _ => ?_)
 . have hr := Zq (f := Zbu) hc
   have hw := Zk (n := i) (by unfold big at hl; omega)
   simp only [Zd, Z8d, Z20, go_sem, dN, hr, hlt, hw]
 . have hi : ¬ es.length < es.length := by omega
   simp only [Zd, Z8d, Z20, go_sem, dN, hi]
   exact ⟨_, rfl, _, rfl⟩
theorem Y0c {D : Nat} (hD : 1 <= D) (es : List Int) (hl : es.length <= big) : den pr D Z4c [.lit Wd (es.map Zbu), .lit Wd (es.map Zbu)] = some [.q true] := by
 obtain ⟨D, rfl, hd⟩ := Zc hD
 rw [Zj2]
 obtain ⟨out, lo, lp⟩ := Zwx (D := D) es hl
 rw [Zb5] at lp
 obtain ⟨U', rfl⟩ := lp
 rw [show ((0 : Nat) : Int) = 0 from rfl] at lo
 simp only [Z7a, go_sem, dN, lo]
theorem Zbt : ∀ a b : List UInt8, W6 a b = false -> W6 b a = false -> a = b
 | [], [], _, _ => rfl
 | [], y :: b, h, _ => by cases h
 | x :: a, [], _, h => by cases h
 | x :: a, y :: b, h1, h2 => by
   have e1 : W6 (x :: a) (y :: b) = (decide (x < y) || (x == y && W6 a b)) := rfl
   have e2 : W6 (y :: b) (x :: a) = (decide (y < x) || (y == x && W6 b a)) := rfl
   rw [e1, fH] at h1
   rw [e2, fH] at h2
   have n1 := of_decide_eq_false h1.1
   have n2 := of_decide_eq_false h2.1
   have j0 : x = y := UInt8.le_antisymm (UInt8.not_lt.1 n2) (UInt8.not_lt.1 n1)
   subst j0
   have h3 := h1.2
   have h4 := h2.2
   simp only [beq_self_eq_true, eZ] at h3 h4
   rw [Zbt a b h3 h4]
theorem Z77 (a b : Val) (h1 : Xh a b = false) (h2 : Xh b a = false) : a = b := by
 obtain ⟨k, n, t⟩ := a
 obtain ⟨k', n', t'⟩ := b
 unfold Xh at h1 h2
 simp only at h1 h2
 by_cases hk : k = k'
 . subst hk
   by_cases hn : n = n'
   . subst hn
     simp only [decide_true, Bool.not_true, cond_false] at h1 h2
     have := Zbt _ _ h1 h2
     rw [Go.ByteArray.toList_eq, Go.ByteArray.toList_eq] at this
     rw [Go.WideShapes.bytes_inj this]
   . have j1 : ¬ n' = n := fun h => hn h.symm
     simp only [decide_true, Bool.not_true, cond_false, hn, j1, decide_false, fR, cond_true, decide_eq_false_iff_not] at h1 h2
     omega
 . have j0 : ¬ k' = k := fun h => hk h.symm
   simp only [hk, j0, decide_false, fR, cond_true, decide_eq_false_iff_not] at h1 h2
   omega
theorem Zmx (x y : UInt8) (a b : List UInt8) : W6 (x :: a) (y :: b) = true ↔ x < y \/ (x = y /\ W6 a b = true) := by
 have e1 : W6 (x :: a) (y :: b) = (decide (x < y) || (x == y && W6 a b)) := rfl
 rw [e1, fN, dQ, eJ, beq_iff_eq]
theorem Zbv : ∀ a b c : List UInt8, W6 a b = true -> W6 b c = true -> W6 a c = true
 | [], [], _, h, _ => by cases h
 | _ :: _, [], _, h, _ => by cases h
 | [], y :: b, [], _, h => by cases h
 | [], y :: b, z :: c, _, _ => rfl
 | x :: a, y :: b, [], _, h => by cases h
 | x :: a, y :: b, z :: c, h1, h2 => by
   rw [Zmx] at *
   rcases h1 with h1 | ⟨rfl, h1⟩
   . rcases h2 with h2 | ⟨rfl, h2⟩
     . exact .inl (UInt8.lt_trans h1 h2)
     . exact .inl h1
   . rcases h2 with h2 | ⟨rfl, h2⟩
     . exact .inl h2
     . exact .inr ⟨rfl, Zbv a b c h1 h2⟩
theorem Zoe (a b : Val) : Xh a b = true ↔ a.k < b.k \/ (a.k = b.k /\ (a.n < b.n \/ (a.n = b.n /\ W6 a.t.toList b.t.toList = true))) := by
 unfold Xh
 by_cases hk : a.k = b.k
 . by_cases hn : a.n = b.n
   . simp [hk, hn]
   . simp [hk, hn]
 . simp [hk]
theorem Z7q (a b c : Val) (h1 : Xh a b = true) (h2 : Xh b c = true) : Xh a c = true := by
 rw [Zoe] at *
 rcases h1 with h1 | ⟨k1, h1⟩
 . rcases h2 with h2 | ⟨k2, h2⟩
   . exact .inl (by omega)
   . exact .inl (by omega)
 . rcases h2 with h2 | ⟨k2, h2⟩
   . exact .inl (by omega)
   . refine .inr ⟨by omega, ?_⟩
     rcases h1 with h1 | ⟨n1, h1⟩
     . rcases h2 with h2 | ⟨n2, h2⟩
       . exact .inl (by omega)
       . exact .inl (by omega)
     . rcases h2 with h2 | ⟨n2, h2⟩
       . exact .inl (by omega)
       . exact .inr ⟨by omega, Zbv _ _ _ h1 h2⟩
theorem Zx0 {a b : Ent} (h : Ym a b = true) : Xh b.v a.v = false := by
 unfold Ym at h
 by_cases hv : a.v = b.v
 . rw [hv]; exact Z61 _
 . simp only [hv, decide_false, fR, cond_true] at h
   cases hl : Xh b.v a.v with
   | false => rfl
   | true => have := Z7q _ _ _ h hl; rw [Z61] at this; cases this
theorem Y1m {D : Nat} (hD : 2 <= D) (e : Ent) (es : List Ent) (hl : es.length <= big) :
 Vg (Zd (Zj (aH D) Z6c) [0, 3, 5] rounds ⟨upd (upd (upd (fun _ => .bad) 0 (.lit Z5 (es.map Ent.c))) 3 (.ptr 0 0 0)) 5 (.n (0 : Nat)), upd (fun _ => none) 0 (cT Z5 [e.c]), 1, 0⟩) Unit Nat (Zv (Znf e) 0 () es)
  (fun _ o => ∃ U', o = .exit 0 U' /\ U'.s 5 = .n es.length) (fun i o => ∃ U', o = .exit 0 U' /\ U'.s 5 = .n i) := by
 refine Zt es (fun i (_ : Unit) => ⟨upd (upd (upd (fun _ => .bad) 0 (.lit Z5 (es.map Ent.c))) 3 (.ptr 0 0 0)) 5 (.n i), upd (fun _ => none) 0 (cT Z5 [e.c]), 1, 0⟩) _ (fun _ _ => True) _ _ () trivial hl (fun i _ x K hc hlt hi => ?_) (fun _ K _ => ?_)
 . have hr := Zq (f := Ent.c) hc
   have hw := Zk (n := i) (by unfold big at hl; omega)
   have hm := Zd5 hD x e
   simp only [Zd, Za6, Z34, go_sem, dN, hr, hlt, hw, hm, Znf]
   cases Ym x e with
   | true => simp only [go_sem]
   | false => simp only [go_sem]; exact ⟨_, rfl, _, rfl, rfl⟩
 . have hi : ¬ es.length < es.length := by omega
   have hr : (es.map Ent.c)[es.length]? = none := by simp
   simp only [Zd, Za6, Z34, go_sem, dN, hi, hr]
   exact ⟨_, rfl, _, rfl, rfl⟩
theorem Y4b {D : Nat} (hD : 3 <= D) (e : Ent) (es : List Ent) (hl : es.length <= big) : den pr D Z60 [.lit Z5 (es.map Ent.c), .agg e.c] = some [.n (Zpb e es)] := by
 obtain ⟨D, rfl, hd⟩ := Zc hD
 rw [Zky]
 obtain ⟨out, lo, lp⟩ := Y1m hd e es hl
 rw [show ((0 : Nat) : Int) = 0 from rfl] at lo
 have hk : ∃ U', out = .exit 0 U' /\ U'.s 5 = .n (Zpb e es) := by
  unfold Zpb
  cases hr : Zv (Znf e) 0 () es with
  | inl _ => rw [hr] at lp; exact lp
  | inr i => rw [hr] at lp; exact lp
 obtain ⟨U', rfl, l1⟩ := hk
 simp only [Z8v, go_sem, lo, l1]
theorem Zqp : ∀ (es : List Ent) (p : Option Ent), Z5g p es = true -> ∀ e ∈ es, Zet e = true
 | [], _, _, e, he => nomatch he
 | x :: es, p, h, e, he => by
   have hx : Z5g p (x :: es) = (Zm7 p x && Z5g (some x) es) := rfl
   rw [hx, dQ] at h
   rcases eK.1 he with rfl | he
   . have := h.1
     unfold Zm7 at this
     rw [dQ] at this
     exact this.1
   . exact Zqp es _ h.2 e he
theorem Small.put {es : List Ent} (hs : Small es) (hl : es.length + 1 <= big) {e : Ent} (he : e.v.t.size <= big) : Small (Zfm e es) := ⟨by rw [Zdf]; exact hl, fun x hx => by
 unfold Zfm at hx
 rcases dW.1 hx with hx | hx
 . rcases dW.1 hx with hx | hx
   . exact hs.txt x (fC hx)
   . rcases eK.1 hx with rfl | hx
     . exact he
     . cases hx
 . exact hs.txt x (eS hx)⟩
theorem Y4p (e ty ty2 b len cap i b2 cap2 : Nat) (ex ex2 : Bool) (h : Hp) (n : Nat) : Zxg e [.ref ty b 0 len cap ex, .v (.int .i64 (i : Nat)), .ref ty2 b2 0 1 cap2 ex2] h n = bnd (h b) fun k => bnd (h b2) fun k2 => bnd k2.rows[0]? fun row =>
 if ty = e /\ ty2 = e /\ k.own /\ k.box = false /\ k.ty = e /\ len = k.rows.length /\ k2.box = false /\ k2.ty = e /\ ¬ b = b2 /\ i <= len /\ len + 1 <= big then
  some ([.ref e n 0 (len + 1) (len + 1) false], upd (upd h b none) n (some ⟨e, k.rows.take i ++ row :: k.rows.drop i, true, false⟩), n + 1)
 else none := by
 simp [Zxg]
end Go.Vm.T
namespace Go.Vm.T
open Go.Proofs
variable [Pr2]
abbrev Z1a (t : Tab) (k : Nat) (r : RowV) : Ent := ⟨(Wf t r).getD k zV, r.id⟩
def Y67 (t : Tab) (k : Nat) (_ : Nat) (es : List Ent) (r : RowV) : List Ent ⊕ Unit := .inl (Zfm (Z1a t k r) es)
def Z66 (t : Tab) (k : Nat) : List Ent := t.rows.foldl (fun es r => Zfm (Z1a t k r) es) []
theorem Znp (t : Tab) (k : Nat) : ∀ (rs : List RowV) (i : Nat) (es : List Ent), Zv (Y67 t k) i es rs = .inl (rs.foldl (fun es r => Zfm (Z1a t k r) es) es)
 | [], i, es => rfl
 | r :: rs, i, es => Znp t k rs (i + 1) _
abbrev ioS (t : Tab) (k : Int) (i : Nat) (es : List Ent) : St := ⟨upd (upd (upd (upd (upd (upd (fun _ => .bad) 2 (.ptr 0 0 0)) 5 (.n k)) 6 (cV Z5 1 es.length false)) 18 (.lit Z4 (t.rows.map RowV.c))) 19 (.n t.rows.length)) 20 (.n i), upd (upd (fun _ => none) 0 (cT Z1 [t.c])) 1 (cU Z5 (es.map Ent.c)), 2, 0⟩
theorem Zrm {D : Nat} (hD : 7 <= D) (t : Tab) (T : TabOk t) (k : Nat) (hk : k < (Z9 t).length) :
 Vg (Zd (Zj (aH D) Z16) [2, 5, 6, 18, 19, 20] rounds (ioS t k 0 [])) (List Ent) Unit (Zv (Y67 t k) 0 [] t.rows)
  (fun es o => ∃ U', o = .exit 0 U' /\ U'.n = 2 /\ U'.base = 0 /\ U'.s 6 = cV Z5 1 es.length false /\ U'.h 1 = cU Z5 (es.map Ent.c) /\ es.length = t.rows.length) (fun _ o => False) := by
 refine Zt t.rows (ioS t k) (Y67 t k) (fun i es => es.length = i) _ _ [] rfl T.once.small.rlen (fun i es r K hc hlt hI => ?_) (fun es K hI => ?_)
 . have hr := Zq (f := RowV.c) hc
   have j3 := T.once.small.rlen
   have hw := Zk (n := i) (by unfold big at j3; omega)
   have hn := T.once.rows r (dY hc)
   have e1 := Zwj (show 7 <= D by omega) t T.once.small r hn
   have j1 := Z3o hn
   have j0 : k < (Wf t r).length := by rw [j1]; exact hk
   have hv := Zq (f := Val.c) (Zc1 j0)
   unfold Y67
   have j4 := Zdf (Z1a t k r) es
   have e2 := Y4b (show 3 <= D by omega) (Z1a t k r) es (by omega)
   have j2 := Zo0 (Z1a t k r) es
   have hm : (es.map Ent.c).take (Zpb (Z1a t k r) es) ++ (Z1a t k r).c :: (es.map Ent.c).drop (Zpb (Z1a t k r) es) = (Zfm (Z1a t k r) es).map Ent.c := by unfold Zfm; simp
   simp only [Z1a] at *
   generalize Zfm ⟨(Wf t r).getD k zV, r.id⟩ es = ps at *
   generalize Zpb ⟨(Wf t r).getD k zV, r.id⟩ es = j at *
   generalize (Wf t r).getD k zV = v at *
   generalize Wf t r = row at *
   have k0 := eP k
   have kt := eQ k
   have j5 : es.length + 1 <= big := by omega
   have j7 := Zb Val.c row
   have j6 := Zb Ent.c es
   obtain ⟨D', rfl⟩ : ∃ d, D = d + 1 := ⟨D - 1, by omega⟩
   simp only [ioS, Zd, Z13, Ws, go_sem, dN, hr, hlt, hw, e1, e2, hv, j0, k0, kt, j5, j6, j2, hm, j4, Yba, Y4p, dO, if_true, ite_self]
   omega
 . have hi : ¬ t.rows.length < t.rows.length := by omega
   simp only [ioS, Zd, Z13, Ws, go_sem, hi]
   exact ⟨_, rfl, _, rfl, rfl, rfl, rfl, rfl, hI⟩
theorem Zo1 {D : Nat} (t : Tab) (hl : t.rows.length <= big) :
 Vg (Zd (Zj (aH D) Z16) [2, 5, 6, 18, 19, 20] rounds (ioS t (-1) 0 [])) Unit Unit (Zv (fun _ _ _ => .inl ()) 0 () t.rows)
  (fun _ o => ∃ U', o = .exit 0 U' /\ U'.n = 2 /\ U'.base = 0 /\ U'.s 6 = cV Z5 1 0 false /\ U'.h 1 = cU Z5 []) (fun _ o => False) := by
 refine Zt t.rows (fun i _ => ioS t (-1) i []) (fun _ _ _ => .inl ()) (fun _ _ => True) _ _ () trivial hl (fun i _ r K hc hlt hI => ?_) (fun _ K hI => ?_)
 . have hr := Zq (f := RowV.c) hc
   have hw := Zk (n := i) (by unfold big at hl; omega)
   have k0 : ¬ (0 : Int) <= -1 := by decide
   simp only [ioS, Zd, Z13, Ws, go_sem, hr, hlt, hw, k0]
 . have hi : ¬ t.rows.length < t.rows.length := by omega
   simp only [ioS, Zd, Z13, Ws, go_sem, hi]
   exact ⟨_, rfl, _, rfl, rfl, rfl, rfl, rfl⟩
def Z15 (t : Tab) (nm : ByteArray) : List Ent := if V3 t = true then (match Z6s nm (Z9 t) with
 | some k => Z66 t k
 | none => []) else []
theorem Zie (t : Tab) (k : Nat) : (Z66 t k).length = t.rows.length := by
 have : ∀ (rs : List RowV) (es : List Ent), (rs.foldl (fun es r => Zfm (Z1a t k r) es) es).length = es.length + rs.length := by
  intro rs
  induction rs with
  | nil => intro es; rfl
  | cons r rs ih => intro es; rw [List.foldl_cons, ih, Zdf, eF]; omega
 unfold Z66
 rw [this]
 simp
theorem Zmg (t : Tab) (nm : ByteArray) : (Z15 t nm).length <= t.rows.length := by
 unfold Z15
 split
 . split
   . rw [Zie]; exact dO _
   . simp
 . simp
theorem Zwd {D : Nat} (hD : 10 <= D) (t : Tab) (ht : SmallT t) (nm : ByteArray) : den pr D Z2v [.agg t.c, .s nm] = some [.olit Z5 ((Z15 t nm).map Ent.c)] := by
 obtain ⟨D, rfl, hd⟩ := Zc hD
 rw [Zg3]
 have e1 := Zbf (show 9 <= D by omega) t ht
 unfold Z15
 cases hok : V3 t with
 | false =>
   rw [hok] at e1
   rw [if_neg (by simp)]
   simp only [Z0s, go_sem, e1]
 | true =>
   rw [hok] at e1
   rw [if_pos rfl]
   have T := Z73 ht hok
   have e2 := Zij (show 7 <= D by omega) t ht
   rw [show ((chgs t.first t.chg).getD []) = Z9 t from rfl] at e2
   have j2 := (Yq T.shape).2
   have e3 := Z68 (show 3 <= D by omega) nm (Z9 t) (by omega)
   have hts := Zb ColV.c (Z9 t)
   unfold nmI at e3
   cases hk : Z6s nm (Z9 t) with
   | none =>
     rw [hk] at e3
     obtain ⟨out, lo, lp⟩ := Zo1 (D := D) t ht.rlen
     rw [Zb5] at lp
     obtain ⟨U', rfl, l1, l2, l3, l4⟩ := lp
     simp only [ioS, eG, dJ] at lo
     rw [show ((0 : Nat) : Int) = 0 from rfl] at lo
     have e4 := Zv6 (show 2 <= D by omega) [] (by simp)
     simp only at e3
     simp only [Z0s, go_sem, e1, e2, e3, e4, dN, hts, Za, lo, l1, l2, l3, l4, dO, dG, if_true]
   | some k =>
     rw [hk] at e3
     obtain ⟨out, lo, lp⟩ := Zrm (D := D) (by omega) t T k (Z0p hk)
     rw [Znp] at lp
     obtain ⟨U', rfl, l1, l2, l3, l4, l5⟩ := lp
     rw [show t.rows.foldl (fun es r => Zfm (Z1a t k r) es) [] = Z66 t k from rfl] at l3 l4 l5
     have hb : (Z66 t k).length <= big := by rw [Zie]; exact ht.rlen
     simp only [ioS, eG, dJ] at lo
     rw [show ((0 : Nat) : Int) = 0 from rfl] at lo
     have e4 := Zv6 (show 2 <= D by omega) ((Z66 t k).map Ent.c) (by simpa using hb)
     have j1 := Zb Ent.c (Z66 t k)
     have j0 : ((Z66 t k).map Ent.c).length = (Z66 t k).length := by simp
     simp only at e3
     show (Zbk _ _ : Option (List A)) = some [A.olit Z5 ((Z66 t k).map Ent.c)]
     generalize Z66 t k = m at *
     simp only [Z0s, go_sem, e1, e2, e3, e4, dN, hts, Za, Z6o, lo, l1, l2, l3, l4, j1, j0, dO, if_true]
abbrev isS (t : Tab) (k : Nat) (i : Nat) (es : List Ent) : St := ⟨upd (upd (upd (upd (fun _ => .bad) 2 (.ptr 0 0 0)) 5 (.ref Z5 1 0 es.length es.length (decide (es.length = 0)))) 6 (.n k)) 7 (.n i), upd (upd (fun _ => none) 0 (cT Z1 [t.c])) 1 (cU Z5 (es.map Ent.c)), 2, 0⟩
theorem Zph {D : Nat} (hD : 9 <= D) (t : Tab) (T : TabOk t) (k : Nat) (hk : k < (Z9 t).length) :
 Vg (Zd (Zj (aH D) Z3t) [2, 5, 6, 7] rounds (isS t k 0 [])) (List Ent) Unit (Zv (Y67 t k) 0 [] t.rows)
  (fun es o => ∃ U' ex, o = .exit 0 U' /\ U'.n = 2 /\ U'.base = 0 /\ U'.s 5 = cV Z5 1 es.length ex /\ U'.h 1 = cU Z5 (es.map Ent.c)) (fun _ o => False) := by
 refine Zt t.rows (isS t k) (Y67 t k) (fun i es => es.length = i) _ _ [] rfl T.once.small.rlen (fun i es r K hc hlt hI => ?_) (fun es K hI => ?_)
 . have hr := Zq (f := RowV.c) hc
   have j3 := T.once.small.rlen
   have hw := Zk (n := i) (by unfold big at j3; omega)
   have hn := T.once.rows r (dY hc)
   have e1 := Zce hD t T.once.small T.sh r hn
   have j1 := Z3o hn
   have j0 : k < (Wf t r).length := by rw [j1]; exact hk
   have hv := Zq (f := Val.c) (Zc1 j0)
   unfold Y67
   have j6 := Zdf (Z1a t k r) es
   have e2 := Y4m (show 3 <= D by omega) (Z1a t k r) es (by omega)
   simp only [Z1a] at *
   generalize Zfm ⟨(Wf t r).getD k zV, r.id⟩ es = ps at *
   generalize (Wf t r).getD k zV = v at *
   generalize Wf t r = row at *
   have k0 := eP k
   have kt := eQ k
   have j5 := Zb Val.c row
   have j2 := Zb Ent.c es
   have hz : decide (ps.length = 0) = false := decide_eq_false (by omega)
   have j4 : (ps.map Ent.c).length = ps.length := by simp
   simp only [isS, Zd, Z88, Z11, go_sem, dN, hr, hlt, hw, e1, e2, hv, j0, k0, kt, j2, hz, Z6o, dO, if_true, ite_self]
   omega
 . have hi : ¬ t.rows.length < t.rows.length := by omega
   simp only [isS, Zd, Z88, Z11, go_sem, dN, hi]
   exact ⟨_, rfl, _, _, rfl, rfl, rfl, rfl, rfl⟩
def g14 : List G := [.g 12 false (.mv 15 (.t 1)), .g 12 false (.call (some 16) 1 0 X9 [(.t 14), (.t 15)]), .g 12 false (.bin 17 .lss (.t 16) (.k (.v (.int .i64 0)))), .o (.pick 18 (.t 12) (.k (.v (.bool true))) (.t 17))]
noncomputable def Y7g (E : Env) (U : St) (o : Option A) : Nat -> A := match bnd (Xv false U (some 14) o none) (Ze E 1 g14) with | some O => O.s | none => U.s
theorem Zw7 (E : Env) (U : St) (o : Option A) (k : Option St) (h : U.s 12 = .q true) : bnd (Xv false U (some 14) o k) (Ze E 1 g14) = some ⟨upd (Y7g E U o) 18 (.q true), U.h, U.n, U.base⟩ /\ Y7g E U o 5 = U.s 5 := by
 have key : ∃ f, bnd (Xv false U (some 14) o none) (Ze E 1 g14) = some ⟨upd f 18 (.q true), U.h, U.n, U.base⟩ /\ f 5 = U.s 5 := by
  rw [Wj]
  obtain ⟨s, hp, n, b⟩ := U
  simp only at h
  simp only [g14, go_sem, h, Wj, Zba, bq2]
  first
   | exact ⟨_, rfl, rfl⟩
   | (rw [bq]; exact ⟨_, rfl, rfl⟩)
 obtain ⟨f, hf, j0⟩ := key
 have : Y7g E U o = upd f 18 (.q true) := by unfold Y7g; rw [hf]
 refine ⟨?_, by rw [this]; exact j0⟩
 rw [this, Wj, <- Wj _ _ _ none]
 rw [show upd (upd f 18 (.q true)) 18 (.q true) = upd f 18 (.q true) from by funext i; simp only [Z7]; split <;> rfl]
 exact hf
theorem Y7o (E : Env) (U : St) (o : Option A) (k : Option St) (h : U.s 12 = .q true) : bnd (Xv false U (some 14) o k) (Ze E 1 [.g 12 false (.mv 15 (.t 1)), .g 12 false (.call (some 16) 1 0 X9 [(.t 14), (.t 15)]), .g 12 false (.bin 17 .lss (.t 16) (.k (.v (.int .i64 0)))), .o (.pick 18 (.t 12) (.k (.v (.bool true))) (.t 17))]) = some ⟨upd (Y7g E U o) 18 (.q true), U.h, U.n, U.base⟩ := (Zw7 E U o k h).1
theorem Y9j (E : Env) (U : St) (o : Option A) (h : U.s 12 = .q true) : Y7g E U o 5 = U.s 5 := (Zw7 E U o none h).2
theorem Zfr {D : Nat} (hD : 12 <= D) (t : Tab) (ht : SmallT t) (nm : ByteArray) : den pr D Z2p [.agg t.c, .s nm] = some [.olit Z5 ((Z15 t nm).map Ent.c)] := by
 obtain ⟨D, rfl, hd⟩ := Zc hD
 rw [Zga]
 have e1 := Za1 (show 11 <= D by omega) t ht
 unfold Z15
 cases hok : V3 t with
 | false =>
   rw [hok] at e1
   rw [if_neg (by simp)]
   simp only [Z0r, go_sem, e1, Y7o, Y9j, dO]
 | true =>
   rw [hok] at e1
   rw [if_pos rfl]
   have T := Z73 ht hok
   have e2 := Z2l (show 9 <= D by omega) t ht T.sh
   have j2 := (Yq T.shape).2
   have e3 := Ze2 (show 1 <= D by omega) nm (Z9 t) (by omega)
   have hts := Zb ColV.c (Z9 t)
   unfold nmI at e3
   cases hk : Z6s nm (Z9 t) with
   | none =>
     rw [hk] at e3
     simp only at e3
     have m1 : (-1 : Int) < 0 := by decide
     simp only [Z0r, go_sem, e1, e2, e3, m1, dN, hts, Za, dO, if_true]
   | some k =>
     rw [hk] at e3
     obtain ⟨out, lo, lp⟩ := Zph (D := D) (by omega) t T k (Z0p hk)
     rw [Znp] at lp
     obtain ⟨U', ex, rfl, l1, l2, l3, l4⟩ := lp
     rw [show t.rows.foldl (fun es r => Zfm (Z1a t k r) es) [] = Z66 t k from rfl] at l3 l4
     simp only [isS, eG, dJ, decide_true] at lo
     rw [show ((0 : Nat) : Int) = 0 from rfl] at lo
     have j1 := Zb Ent.c (Z66 t k)
     have j0 : ((Z66 t k).map Ent.c).length = (Z66 t k).length := by simp
     have k0 : ¬ (k : Int) < 0 := by omega
     simp only at e3
     show (Zbk _ _ : Option (List A)) = some [A.olit Z5 ((Z66 t k).map Ent.c)]
     generalize Z66 t k = m at *
     simp only [Z0r, go_sem, e1, e2, e3, k0, dN, hts, Za, lo, l1, l2, l3, l4, j1, j0, dO, if_true]
end Go.Vm.T
namespace Go.Vm.T
open Go.Proofs
def Z74 (t : Tab) : List ColV := if V3 t = true then Z9 t else []
theorem Zw1 [Pr2] {t : Tab} (ht : SmallT t) : (Z74 t).length <= 5 /\ SmallC (Z74 t) := by
 unfold Z74
 cases hok : V3 t with
 | false => exact ⟨dG _, by rw [if_neg (by decide)]; exact ⟨dG _, fun x hx => nomatch hx⟩⟩
 | true =>
   rw [if_pos rfl]
   have T := Z73 ht hok
   exact ⟨(Z6x T.shape).2, (Yq T.shape).1⟩
variable [Pr2]
theorem Zkm {D : Nat} (hD : 10 <= D) (t : Tab) (ht : SmallT t) : den pr D Y91 [.agg t.c] = some [.olit Z0 ((Z74 t).map ColV.c)] := by
 obtain ⟨D, rfl, hd⟩ := Zc hD
 rw [Ye2]
 have e1 := Zbf (show 9 <= D by omega) t ht
 unfold Z74
 cases hok : V3 t with
 | false =>
   rw [hok] at e1
   simp only [Yak, go_sem, e1, dO, dJ]
 | true =>
   rw [hok] at e1
   have e2 := Zij (show 7 <= D by omega) t ht
   rw [show ((chgs t.first t.chg).getD []) = Z9 t from rfl] at e2
   have hts := Zb ColV.c (Z9 t)
   simp only [Yak, go_sem, e1, e2, dN, hts, Za, dO, if_true]
theorem Zcj {D : Nat} (hD : 12 <= D) (t : Tab) (ht : SmallT t) : den pr D Zyx [.agg t.c] = some [.olit Z0 ((Z74 t).map ColV.c)] := by
 obtain ⟨D, rfl, hd⟩ := Zc hD
 rw [Yc2]
 have e1 := Za1 (show 11 <= D by omega) t ht
 unfold Z74
 cases hok : V3 t with
 | false =>
   rw [hok] at e1
   simp only [Y0n, go_sem, e1, dO, dJ]
 | true =>
   rw [hok] at e1
   have T := Z73 ht hok
   have e2 := Z2l (show 9 <= D by omega) t ht T.sh
   have hts := Zb ColV.c (Z9 t)
   simp only [Y0n, go_sem, e1, e2, dN, hts, Za, dO, if_true]
theorem Y28 {D : Nat} (hD : 13 <= D) (t : Tab) (ht : SmallT t) : den pr D Z4a [.agg t.c] = some [.olit Z0 ((Z74 t).map ColV.c)] := by
 obtain ⟨D, rfl, hd⟩ := Zc hD
 rw [Ziy]
 have e1 := Zcj (show 12 <= D by omega) t ht
 have hts := Zb ColV.c (Z74 t)
 generalize Z74 t = s at *
 simp only [Z7h, go_sem, e1, dN, hts, Za, dO, if_true]
theorem Zwv {D : Nat} (hD : 5 <= D) (cs : List ColV) (hs : SmallC cs) (nm : ByteArray) : den pr D Z32 [.lit Z0 (cs.map ColV.c), .s nm] = some [.n (if Zl cs = true then nmI nm cs else -1)] := by
 obtain ⟨D, rfl, hd⟩ := Zc hD
 rw [Zg8]
 have e1 := Z8f hd cs hs
 have e2 := Z68 (show 3 <= D by omega) nm cs hs.1
 cases hok : Zl cs <;> rw [hok] at e1 <;> simp only [Z69, go_sem, e1, e2]
def Y7y (t : Tab) (id : Int) : List Val × Bool := if V3 t = true then (match Zpj id t.rows with
 | some j => (Wf t (t.rows.getD j ⟨0, 0, []⟩), true)
 | none => ([], false)) else ([], false)
theorem Zsm {D : Nat} (hD : 10 <= D) (t : Tab) (ht : SmallT t) (id : Int) : den pr D Yam [.agg t.c, .n id] = some [.olit Z2 ((Y7y t id).1.map Val.c), .q (Y7y t id).2] := by
 obtain ⟨D, rfl, hd⟩ := Zc hD
 rw [Ye4]
 have e1 := Zbf (show 9 <= D by omega) t ht
 have e0 := Y3u (show 3 <= D by omega) t id ht.rlen
 unfold idI at e0
 unfold Y7y
 cases hok : V3 t with
 | false =>
   rw [hok] at e1
   simp only [Ya9, go_sem, e0, e1, dO, dJ]
 | true =>
   rw [hok] at e1
   have T := Z73 ht hok
   cases hj : Zpj id t.rows with
   | none =>
     rw [hj] at e0
     have m0 : (-1 : Int) < 0 := by decide
     simp only [Ya9, go_sem, e0, e1, m0, dO, dJ]
   | some j =>
     rw [hj] at e0
     have j0 := Zpe hj
     have hr : t.rows[j]? = some t.rows[j] := dS j0
     have j2 := Zq (f := RowV.c) hr
     have hg : t.rows.getD j ⟨0, 0, []⟩ = t.rows[j] := by simp [List.getD, hr]
     have e2 := Zwj (show 7 <= D by omega) t ht t.rows[j] (T.once.rows _ (eV j0))
     simp only [hg]
     generalize t.rows[j] = r at *
     have k0 : ¬ (j : Int) < 0 := by omega
     have k1 := eP j
     have kt := eQ j
     have j1 := Zb Val.c (Wf t r)
     simp only [Ya9, go_sem, e0, e1, e2, k0, k1, kt, j2, j1, dN, Zp, dO, if_true]
def Y20 (t : Tab) (nm : ByteArray) (v : Val) (r : RowV) : Bool := match Z6s nm (Z9 t) with
 | some k => decide ((Wf t r).getD k zV = v)
 | none => false
def Zkq (t : Tab) (nm : ByteArray) (v : Val) : List Int := if V3 t = true then (t.rows.filter (Y20 t nm v)).map RowV.id else []
def tfG (P : RowV -> Bool) (_ : Nat) (acc : List Int) (r : RowV) : List Int ⊕ Unit := .inl (if P r = true then acc ++ [r.id] else acc)
theorem Y38 (P : RowV -> Bool) : ∀ (rs : List RowV) (i : Nat) (acc : List Int), Zv (tfG P) i acc rs = .inl (acc ++ (rs.filter P).map RowV.id)
 | [], i, acc => by simp [Zv]
 | r :: rs, i, acc => by
   unfold Zv
   rw [show tfG P i acc r = .inl (if P r = true then acc ++ [r.id] else acc) from rfl]
   simp only
   rw [Y38 P rs (i + 1)]
   cases h : P r <;> simp [h]
abbrev tfS (t : Tab) (v : Val) (at_ : Int) (i : Nat) (acc : List Int) : St := ⟨upd (upd (upd (upd (upd (upd (upd (fun _ => .bad) 3 (.ptr 0 0 0)) 5 (.ptr 1 0 0)) 7 (.n at_)) 8 (cV Wd 2 acc.length false)) 19 (.lit Z4 (t.rows.map RowV.c))) 20 (.n t.rows.length)) 21 (.n i), upd (upd (upd (fun _ => none) 0 (cT Z1 [t.c])) 1 (cT Z2 [v.c])) 2 (cU Wd (acc.map Zbu)), 3, 0⟩
set_option maxHeartbeats 2000000 in
theorem Zmu {D : Nat} (hD : 7 <= D) (t : Tab) (T : TabOk t) (nm : ByteArray) (v : Val) :
 Vg (Zd (Zj (aH D) Zxk) [3, 5, 7, 8, 19, 20, 21] rounds (tfS t v (nmI nm (Z9 t)) 0 [])) (List Int) Unit (Zv (tfG (Y20 t nm v)) 0 [] t.rows)
  (fun m o => ∃ U', o = .exit 0 U' /\ U'.n = 3 /\ U'.base = 0 /\ U'.s 8 = cV Wd 2 m.length false /\ U'.h 2 = cU Wd (m.map Zbu)) (fun _ o => False) := by
 have j5 := (Yq T.shape).2
 refine Zt t.rows (tfS t v (nmI nm (Z9 t))) (tfG (Y20 t nm v)) (fun i acc => acc.length <= i) _ _ [] (dO _) T.once.small.rlen (fun i acc r K hc hlt hI => ?_) (fun acc K hI => ?_)
 . have hr := Zq (f := RowV.c) hc
   have j3 := T.once.small.rlen
   have hw := Zk (n := i) (by unfold big at j3; omega)
   have hn := T.once.rows r (dY hc)
   have e1 := Zwj (show 7 <= D by omega) t T.once.small r hn
   have j7 := Z3o hn
   have j1 : acc.length + 1 <= big := by omega
   have j2 := Zb Zbu acc
   have em : (acc ++ [r.id]).map Zbu = acc.map Zbu ++ [Zbu r.id] := by simp
   have j4 : (acc ++ [r.id]).length = acc.length + 1 := by simp
   unfold tfG nmI
   cases hk : Z6s nm (Z9 t) with
   | none =>
     have m0 : ¬ (0 : Int) <= -1 := by decide
     have hP : Y20 t nm v r = false := by unfold Y20; rw [hk]
     rw [hP]
     simp only [tfS, Zd, Zpw, Zhr, go_sem, dN, hr, hlt, hw, m0, e1, dO, if_true, if_false]
     omega
   | some k =>
     have j8 := Z0p hk
     have j0 : k < (Wf t r).length := by omega
     have hv := Zq (f := Val.c) (Zc1 j0)
     have k0 := eP k
     have kt := eQ k
     have j6 := Zb Val.c (Wf t r)
     have hP : Y20 t nm v r = decide ((Wf t r).getD k zV = v) := by unfold Y20; rw [hk]
     obtain ⟨u, hu⟩ : ∃ u, u = (Wf t r).getD k zV := ⟨_, rfl⟩
     rw [<- hu] at hP hv
     have ve := Zd0 u v
     by_cases q : u = v
     . rw [decide_eq_true q] at ve hP
       rw [hP]
       simp only [tfS, Zd, Zpw, Zhr, go_sem, dN, hr, hlt, hw, k0, kt, e1, hv, j0, j1, j2, em, j4, ve, Zp, dO, if_true, if_false]
       omega
     . rw [decide_eq_false q] at ve hP
       rw [hP]
       simp only [tfS, Zd, Zpw, Zhr, go_sem, dN, hr, hlt, hw, k0, kt, e1, hv, j0, j1, j2, ve, Zp, dO, if_true, if_false]
       omega
 . have hi : ¬ t.rows.length < t.rows.length := by omega
   simp only [tfS, Zd, Zpw, Zhr, go_sem, hi]
   exact ⟨_, rfl, _, rfl, rfl, rfl, rfl, rfl⟩
theorem Zo7 {D : Nat} (hD : 10 <= D) (t : Tab) (ht : SmallT t) (nm : ByteArray) (v : Val) : den pr D Yao [.agg t.c, .s nm, .agg v.c] = some [.olit Wd ((Zkq t nm v).map Zbu)] := by
 obtain ⟨D, rfl, hd⟩ := Zc hD
 rw [Ye9]
 have e1 := Zbf (show 9 <= D by omega) t ht
 unfold Zkq
 cases hok : V3 t with
 | false =>
   rw [hok] at e1
   simp only [Yav, go_sem, e1, dO, dJ]
 | true =>
   rw [hok] at e1
   have T := Z73 ht hok
   have j0 := Yq T.shape
   have e2 := Zij (show 7 <= D by omega) t ht
   rw [show ((chgs t.first t.chg).getD []) = Z9 t from rfl] at e2
   have e3 := Z68 (show 3 <= D by omega) nm (Z9 t) j0.1.1
   have hts := Zb ColV.c (Z9 t)
   obtain ⟨out, lo, lp⟩ := Zmu (D := D) (by omega) t T nm v
   rw [Y38] at lp
   obtain ⟨U', rfl, l1, l2, l3, l4⟩ := lp
   rw [dH] at l3 l4
   rw [if_pos rfl]
   obtain ⟨D, rfl⟩ : ∃ D', D = D' + 1 := ⟨D - 1, by omega⟩
   simp only [tfS, eG, dJ] at lo
   rw [show ((0 : Nat) : Int) = 0 from rfl] at lo
   generalize (t.rows.filter (Y20 t nm v)).map RowV.id = m at *
   generalize Z9 t = sh at *
   have j2 := Zb Zbu m
   have j1 : (m.map Zbu).length = m.length := by simp
   simp only [Yav, go_sem, e1, e2, e3, dN, hts, Za, lo, l1, l2, l3, l4, j2, j1, Ya5, Y1z, dO, dG, fL, fI, if_true]
end Go.Vm.T
namespace Go.Vm.T
open Go.Proofs
variable [Pr2]
theorem Zj1 {v : Nat} : ∀ {ns : List Nat} {h : Hp}, ¬ v ∈ ns -> frz h ns v = h v
 | [], h, _ => rfl
 | b :: bs, h, hv => by
   unfold frz
   have h1 : ¬ v = b := fun e => hv (by simp [e])
   have h2 : ¬ v ∈ bs := fun e => hv (by simp [e])
   cases e : h b with
   | none => exact Zj1 h2
   | some k =>
     show frz (upd h b (some { k with own := false })) bs v = h v
     rw [Zj1 h2, Z7, if_neg h1]
theorem Zpk {h : Hp} {m k : Nat} : ∀ {rs : List (List A)} {rows : List (List A)} {ns : List Nat}, (∀ x ∈ rs, Y3g h m x) -> Vr (clD h (k + 1)) rs = some (rows, ns) -> ∀ v ∈ ns, m <= v
 | [], rows, ns, _, e => by
   unfold Vr at e
   simp only [dM, dV] at e
   obtain ⟨-, rfl⟩ := e
   intro v hv
   cases hv
 | x :: rs, rows, ns, H, e => by
   obtain ⟨id, ver, u, vals, ex, ow, rfl, hu, q1, q2, q3⟩ := H x (by simp)
   have hr : Z5c (clD h (k + 1)) [.n id, .n ver, cV Z2 u vals.length ex] = some ((⟨id, ver, vals⟩ : RowV).c, [u]) := by
    show bnd (clD h (k + 1) (.n id)) _ = _
    rw [show clD h (k + 1) (.n id) = some (.n id, []) from rfl]
    show bnd (bnd (clD h (k + 1) (.n ver)) _) _ = _
    rw [show clD h (k + 1) (.n ver) = some (.n ver, []) from rfl]
    show bnd (bnd (bnd (clD h (k + 1) (cV Z2 u vals.length ex)) _) _) _ = _
    have : clD h (k + 1) (cV Z2 u vals.length ex) = some (.lit Z2 (vals.map Val.c), [u]) := by
     unfold clD
     rw [hu]
     simp only [bnd, dF, dN, dO, if_true, cond_false, dI, dP (show (vals.map Val.c).length <= vals.length by simp)]
    rw [this]
    rfl
   unfold Vr at e
   rw [hr] at e
   obtain ⟨p, e1, e2⟩ := Z6 e
   cases e1
   obtain ⟨⟨j0, j1⟩, e3, e4⟩ := Z6 e2
   have ih := Zpk (k := k) (rs := rs) (fun y hy => H y (by simp [hy])) e3
   simp only [dM, dV] at e4
   obtain ⟨-, rfl⟩ := e4
   intro v hv
   rcases dW.1 hv with hv | hv
   . rw [dX] at hv; omega
   . exact ih v hv
theorem TabL.cl' {h : Hp} {m : Nat} {y : List A} (L : TabL h m y) : ∃ t ns, SmallT t /\ Z5c (clD h 4) y = some (t.c, ns) /\ ∀ v ∈ ns, m <= v := by
 obtain ⟨a, b, c, og, cs, g0, gs, rs, bx, ca, cb, cc, ea, eb, ec, nx, rfl, V⟩ := L
 obtain ⟨oa, ha⟩ := V.ha
 obtain ⟨ob, hb⟩ := V.hb
 obtain ⟨oc, hc⟩ := V.hc
 obtain ⟨rows, nr, h1, h2, h3⟩ := Zjf (k := 2) V.rs1
 have e1 : clD h 4 (.ref Z0 a 0 cs.length ca ea) = some (.lit Z0 (cs.map ColV.c), [a]) := by
  unfold clD; rw [ha]
  simp only [bnd, dF, dN, dO, if_true, cond_false, dI, dP (show (cs.map ColV.c).length <= cs.length by simp)]
 have e2 : clD h 4 (.ref Z3 b og gs.length cb eb) = some (.lit Z3 (gs.map Chg.c), [b]) := by
  unfold clD; rw [hb]
  have j0 : og + gs.length <= (g0.map Chg.c).length := by rw [dN]; exact V.gs2
  have hm : ((g0.map Chg.c).drop og).take gs.length = gs.map Chg.c := by
   rw [<- List.map_drop, <- gQ, <- V.gs1]
  simp only [bnd, j0, if_true, cond_false, hm]
 have e3 : ∃ ns, clD h 4 (.ref Z4 c 0 rs.length cc ec) = some (.lit Z4 (rows.map RowV.c), ns) /\ ∀ v ∈ ns, m <= v := by
  unfold clD; rw [hc]
  simp only [bnd, dF, dO, if_true, dI, dP (dO rs.length)]
  cases bx with
  | true =>
    rw [cond_true, h1]
    refine ⟨_, rfl, fun v hv => ?_⟩
    have c1 := V.c1
    have := Zpk (k := 2) V.rs1 h1
    rcases eK.1 hv with rfl | hv
    . exact c1
    . exact this v hv
  | false =>
    have := V.bx.resolve_left (by decide)
    subst this
    have h0 : rows = [] := fE.1 h2
    rw [h0]
    refine ⟨_, rfl, fun v hv => ?_⟩
    have c1 := V.c1
    rw [dX] at hv
    subst hv
    exact c1
 obtain ⟨ns, e3, e4⟩ := e3
 have c2 := V.cs2; have g4 := V.gs4; have r2 := V.rs2
 have a1 := V.a1; have b1 := V.b1
 refine ⟨⟨cs, gs, rows, nx⟩, [a] ++ ([b] ++ (ns ++ ([] ++ []))), ⟨⟨by simp only; unfold big; omega, V.cs1⟩, by simp only; unfold big; omega, V.gs3, by simp only; unfold big; omega, by simp only; unfold big; omega, h3⟩, ?_, fun v hv => ?_⟩
 . unfold Z5c; rw [e1]
   unfold Z5c; rw [e2]
   unfold Z5c; rw [e3]
   unfold Z5c
   rw [show clD h 4 (.n nx) = some (.n nx, []) from rfl]
   rfl
 . simp only [dW, dX, fU, or_false] at hv
   rcases hv with rfl | rfl | hv
   . exact a1
   . exact b1
   . exact e4 v hv
structure SomeT (D : Nat) (ns : List Int) (p b m : Nat) (h : Hp) (t : Tab) (y : List A) (H0 : Hp) (n' : Nat) (nm : List Nat) (p' : Nat) : Prop where
 sm : SmallT t
 e : dcl pr D Z1q [.ptr b 0 0] h m = some ([.agg y], H0, n')
 cl : Z5c (clD H0 4) y = some (t.c, nm)
 p : p' <= p + 3750
 n : m <= n'
 hb : frz H0 nm b = rdB ns p'
 low : ∀ v, v < m -> ¬ v = b -> frz H0 nm v = h v
theorem Y0s {D : Nat} (hD : 14 <= D) (ns : List Int) (hc : Code ns) (p : Nat) (hp : p + 6000 <= 2 ^ 29) (h : Hp) (m b : Nat) (hbm : b < m) (hrd : h b = rdB ns p) :
 ∃ t y H0 n' nm p', SomeT D ns p b m h t y H0 n' nm p' := by
 obtain ⟨y, H0, n', p', e, L, j2, hn, hb, low⟩ := Y1g hD ns hc p hp h m b hbm hrd
 obtain ⟨t, nm, sm, cl, j0⟩ := L.cl'
 exact ⟨t, y, H0, n', nm, p', sm, e, cl, j2, hn, by rw [Zj1 (fun q => by have := j0 b q; omega)]; exact hb, fun v hv j1 => by rw [Zj1 (fun q => by have := j0 v q; omega)]; exact low v hv j1⟩
abbrev Yeo : List ByteArray := [⟨#[97]⟩, ⟨#[98]⟩, ⟨#[122, 122]⟩, ⟨#[]⟩]
set_option maxHeartbeats 4000000 in
theorem Zyk {D : Nat} (hD : 14 <= D) (ns : List Int) (hc : Code ns) (p : Nat) (hp : p + 10 <= 2 ^ 40) (t : Tab) (ht : SmallT t) (h : Hp) (m b : Nat) (hb : b < m) (hh : h b = rdB ns p) :
 ∃ nm h' n', dcl pr D Z4f [.ptr b 0 0, .agg t.c] h m = some ([.s nm], h', n') /\ Drew ns p 3 b m h n' h' := by
 obtain ⟨D, rfl, hd⟩ := Zc hD
 rw [Zim]
 have B := Z8 hb
 have e1 := Y28 (show 13 <= D by omega) t ht
 have j4 := Zb ColV.c (Z74 t)
 generalize Z74 t = cs at *
 obtain ⟨x, hx, e2⟩ := Wv ns hc 10 p (by omega)
 have of_ : ∀ p0, p0 <= p + 1 -> ∃ nm, ∀ (h : Hp) (m b bl : Nat), b < m -> ¬ bl = b -> h b = rdB ns p0 -> h bl = cU Wu (Yeo.map Yar) -> dcl pr D Zai [.ptr b 0 0, cV Wu bl 4 true] h m = some ([.s nm], upd h b (rdB ns (p0 + 1)), m) := fun p0 j5 => by
  obtain ⟨nm, j3, e3⟩ := Zv4 ns hc Yeo (by decide) p0 (by omega)
  exact ⟨nm, fun h m b bl q1 q2 q3 q4 => e3 D (by omega) h m b bl 4 true q1 q2 q3 q4⟩
 by_cases z : (0 : Int) < (cs.length : Int)
 . by_cases x0 : 0 < x
   . obtain ⟨k', j1, e4⟩ := Wv ns hc (cs.length : Int) (p + 1) (by omega)
     have j2 := j1.1 (by omega)
     obtain ⟨k, rfl⟩ : ∃ k : Nat, k' = (k : Int) := ⟨k'.toNat, by omega⟩
     have hk : k < cs.length := by omega
     have hr := Zq (f := ColV.c) (dS hk)
     generalize cs[k] = c at *
     have k0 := eP k
     have kt := eQ k
     simp only [Z1s, go_sem, e1, z, x0, hk, hr, k0, kt, hh, e2 D (by omega), e4 D (by omega), Za, B.a, dN, dO]
     refine ⟨c.nm, _, _, rfl, ⟨p + 2, by omega, ?_⟩, by omega, fun y hy j0 => ?_⟩
     . simp only [go_sem]
     . have Y := Z8 hy
       simp only [go_sem, j0, Y.a]
   . obtain ⟨nm, e3⟩ := of_ (p + 1) (by omega)
     simp only [Z1s, go_sem, e1, z, x0, hh, e2 D (by omega), e3, Za, B.a, dN, dO]
     refine ⟨nm, _, _, rfl, ⟨p + 2, by omega, ?_⟩, by omega, fun y hy j0 => ?_⟩
     . simp only [go_sem]
     . have Y := Z8 hy
       simp only [go_sem, j0, Y.a]
 . obtain ⟨nm, e3⟩ := of_ p (by omega)
   simp only [Z1s, go_sem, e1, z, hh, e3, Za, B.a, dN, dO]
   refine ⟨nm, _, _, rfl, ⟨p + 1, by omega, ?_⟩, by omega, fun y hy j0 => ?_⟩
   . simp only [go_sem]
   . have Y := Z8 hy
     simp only [go_sem, j0, Y.a]
structure CdI (ns : List Int) (b m qs cp : Nat) (ex ow : Bool) (cs : List ColV) (h : Hp) (q5 : Nat) (s : Nat -> A) (H : Hp) (n p : Nat) (c : CondV) : Prop where
 s0 : s 0 = .ptr b 0 0
 s1 : s 1 = .ref Z0 qs 0 cs.length cp ex
 s4 : s 4 = .ptr m 0 0
 s5 : s 5 = .ptr q5 0 0
 hb : H b = rdB ns p
 hs : H qs = some ⟨Z0, cs.map ColV.c, ow, false⟩
 h4 : H m = cT Zas [Yb1]
 h5 : H q5 = cT Zas [c.c]
 m5 : m < q5
 l5 : q5 < n
 low : ∀ y, y < m -> ¬ y = b -> H y = h y
 sz : c.v.t.size <= 5
theorem CdI.next {ns : List Int} {b m qs cp : Nat} {ex ow : Bool} {cs : List ColV} {h : Hp} {q5 : Nat} {s : Nat -> A} {H : Hp} {n p : Nat} {c : CondV} (hb' : b < m) (hqs : qs < m) (hne : ¬ qs = b) (I : CdI ns b m qs cp ex ow cs h q5 s H n p c) {s' : Nat -> A} {H' : Hp} {n' p' : Nat} {c' : CondV}
 (e0 : s' 0 = s 0) (e1 : s' 1 = s 1) (e4 : s' 4 = s 4) (e5 : s' 5 = s 5) (hb : H' b = rdB ns p') (h5 : H' q5 = cT Zas [c'.c]) (hH : ∀ y, y < n -> ¬ y = b -> ¬ y = q5 -> H' y = H y) (hn : n <= n') (sz : c'.v.t.size <= 5) : CdI ns b m qs cp ex ow cs h q5 s' H' n' p' c' := by
 have i5 := I.m5; have i6 := I.l5
 exact ⟨e0.trans I.s0, e1.trans I.s1, e4.trans I.s4, e5.trans I.s5, hb, (hH qs (by omega) hne (by omega)).trans I.hs, (hH m (by omega) (by omega) (by omega)).trans I.h4, h5, I.m5, by omega, fun y hy j0 => (hH y (by omega) j0 (by omega)).trans (I.low y hy j0), sz⟩
end Go.Vm.T
namespace Go.Vm.T
open Go.Proofs
structure Bytes (ns : List Int) : Prop where
 len : ns.length <= maxLen
 b : ∀ n ∈ ns, 0 <= n /\ n <= 255
theorem Bytes.code {ns : List Int} (h : Bytes ns) : Code (ns.take 2000) := ⟨by simp; omega, fun n hn => h.b n (fC hn)⟩
variable [Pr2]
set_option maxHeartbeats 4000000 in
theorem Zk0 {D : Nat} (hD : 16 <= D) (ns : List Int) (hb : Bytes ns) : ∃ t nm, SmallT t /\ den pr D Zym [.lit Vf (ns.map u8C)] = some [.agg (t : Tab).c, .s nm] := by
 obtain ⟨D, rfl, hd⟩ := Zc hD
 rw [Yd3]
 have e1 := Zty (D := D) (by omega) ns hb.len
 have h0 : ∃ s H, Zj (aH D) (hdQ (Zs 0 Zrt.code)) ⟨slots [.lit Vf (ns.map u8C)], fun _ => none, 0, 0⟩ = some (.norm ⟨s, H, 4, 0⟩) /\ s 0 = .lit Vf (ns.map u8C) /\ s 2 = .ptr 0 0 0 /\ H 0 = cT Z1 [Vd 1 2 3 false false false] := by
  simp only [Zrt, hdQ, Zs, go_sem]
  refine ⟨_, _, rfl, ?_, ?_, ?_⟩ <;> simp only [go_sem]
 obtain ⟨s0, H0, x0, a0, a2, b0⟩ := h0
 have h1 : ∃ s H, Zj (aH D) (hdQ (Zs 1 Zrt.code)) ⟨s0, H0, 4, 0⟩ = some (.norm ⟨s, H, 6, 0⟩) /\ s 2 = .ptr 0 0 0 /\ s 4 = .ptr 5 0 0 /\ H 0 = cT Z1 [Vd 1 2 3 false false false] /\ H 5 = rdB (ns.take 2000) 0 := by
  simp only [Zrt, go_sem, a0, e1]
  refine ⟨_, _, rfl, ?_, ?_, ?_, ?_⟩
  . simp only [go_sem, a2]
  . simp only [go_sem]
  . simp only [go_sem, b0]
  . simp only [go_sem]
 obtain ⟨s1, H1, x1, a2, a4, b0, b5⟩ := h1
 obtain ⟨t, y, G, n', nm, p', S⟩ := Y0s (D := D) (by omega) (ns.take 2000) hb.code 0 (by omega) H1 10 5 (by omega) b5
 have sn := S.n; have se := S.e; have sc := S.cl
 have g0 : frz G nm 0 = cT Z1 [Vd 1 2 3 false false false] := by rw [S.low 0 (by omega) (by omega)]; exact b0
 have g5 := S.hb
 have j5 : (0 = n') = False := eqF (by omega)
 have h2 : ∃ s H, Zj (aH D) (hdQ (Zs 2 Zrt.code)) ⟨s1, H1, 6, 0⟩ = some (.norm ⟨s, H, n' + 4, 0⟩) /\ s 2 = .ptr 0 0 0 /\ s 4 = .ptr 5 0 0 /\ s 5 = .ptr n' 0 0 /\ H n' = cT Z1 [t.c] /\ ∀ v, v < n' -> H v = frz G nm v := by
  simp only [Zrt, go_sem, a4, se, sc, Tab.c]
  refine ⟨_, _, rfl, ?_, ?_, ?_, ?_, fun v hv => ?_⟩
  . simp only [go_sem, a2]
  . simp only [go_sem, a4]
  . simp only [go_sem]
  . simp only [go_sem]
  . have Y := Z8 hv
    simp only [go_sem, Y.a]
 obtain ⟨s2, H2, x2, a2, a4, a5, c5, j0⟩ := h2
 have sm := S.sm
 have c0 := (j0 0 (by omega)).trans g0
 have cb := (j0 5 (by omega)).trans g5
 have j4 := S.p
 obtain ⟨j3, H3, n3, e3, Dr⟩ := Zyk (D := D) (by omega) (ns.take 2000) hb.code p' (by omega) t sm H2 (n' + 4) 5 (by omega) cb
 have k3 : Z28 [n'] H2 H3 := fun x hx => by rw [dX.1 hx]; exact (Dr.low n' (by omega) (by omega)).symm
 have j2 := Zab (aH D) [n'] _ _ H2 (n' + 4) e3 k3
 have d0 := (Dr.low 0 (by omega) (by omega)).trans c0
 have j1 := ((Xz (C := Zrt.code) 0 x0 rfl).trans (Xz 1 x1 rfl)).trans (Xz 2 x2 rfl)
 rw [show Zs 0 Zrt.code = Zrt.code from rfl] at j1
 rw [j1]
 refine ⟨t, j3, sm, ?_⟩
 simp only [Zrt, tlQ, Zs, go_sem, a2, a4, a5, c5, j2, d0, Tab.c]
end Go.Vm.T
namespace Go.Vm.T
open Go.Proofs
variable [Pr2]
end Go.Vm.T
namespace Go.Vm.T
variable [Pr0]
def Zre (a b : Ent) : Prop := Xh b.v a.v = false
theorem Ztb {a b c : Val} (h1 : Xh b a = false) (h2 : Xh c b = false) : Xh c a = false := by
 cases h : Xh c a with
 | false => rfl
 | true =>
   cases h3 : Xh b c with
   | true => have := Z7q _ _ _ h3 h; rw [h1] at this; cases this
   | false => have := Z77 _ _ h3 h2; subst this; rw [h1] at h; cases h
theorem Zgu : ∀ (es : List Ent) (a : Ent), Z5g (some a) es = true -> (a :: es).Pairwise Zre
 | [], a, _ => by simp
 | e :: es, a, h => by
   have he : Z5g (some a) (e :: es) = (Zm7 (some a) e && Z5g (some e) es) := rfl
   rw [he, dQ] at h
   have ih := Zgu es e h.2
   have h1 := h.1
   unfold Zm7 at h1
   simp only [dQ] at h1
   have hl := Zx0 h1.2
   rw [fA]
   refine ⟨fun x hx => ?_, ih⟩
   rcases eK.1 hx with rfl | hx
   . exact hl
   . exact Ztb hl ((fA.1 ih).1 x hx)
theorem Y50 {es : List Ent} (h : Z3j es = true) : es.Pairwise Zre := by
 unfold Z3j at h
 rw [dQ] at h
 cases es with
 | nil => exact .nil
 | cons e es =>
   have he : Z5g none (e :: es) = (Zm7 none e && Z5g (some e) es) := rfl
   have h1 := h.1
   rw [he, dQ] at h1
   exact Zgu es e h1.2
abbrev cnt (v : Val) (es : List Ent) : Nat := (es.filter fun x => decide (x.v = v)).length
theorem Zqu : ∀ (es : List Ent) (a : Ent) (i : Nat), (a :: es).Pairwise Zre -> ((∃ q, Zv Zcl i (some a) es = .inl q) ↔ ∀ v : Val, ¬ v.k = 0 -> cnt v (a :: es) <= 1)
 | [], a, i, _ => by
   refine ⟨fun _ v _ => ?_, fun _ => ⟨some a, rfl⟩⟩
   have := List.length_filter_le (fun x : Ent => decide (x.v = v)) [a]
   simpa using this
 | e :: es, a, i, hp => by
   have j0 := fA.1 hp
   have j4 := fA.1 j0.2
   unfold Zv Zcl
   by_cases ht : Zks (some a) e = true
   . simp only [ht, if_true]
     unfold Zks at ht
     simp at ht
     refine ⟨fun hq => (by obtain ⟨q, h⟩ := hq; cases h), fun h => absurd (h e.v ht.1) ?_⟩
     simp [cnt, ht.2]
   . simp only [ht, eH, if_false]
     rw [show (fun (_ : Nat) p e => if Zks p e = true then (Sum.inr () : Option Ent ⊕ Unit) else Sum.inl (some e)) = Zcl from rfl, Zqu es e (i + 1) j0.2]
     unfold Zks at ht
     simp at ht
     refine ⟨fun h v hv => ?_, fun h v hv => ?_⟩
     . by_cases hav : a.v = v
       . subst hav
         have hz : ((e :: es).filter fun x => decide (x.v = a.v)) = [] := by
          rw [gW]
          intro x hx
          rw [eJ]
          intro j2
          have j3 : Xh e.v a.v = false := j0.1 e (by simp)
          have j1 : e.v = a.v := by
           rcases eK.1 hx with rfl | hx
           . exact j2
           . have := j4.1 x hx
             unfold Zre at this
             rw [j2] at this
             exact Z77 _ _ j3 this
          exact absurd j1 (ht (by rw [j1]; exact hv))
         simp only [cnt, gC, decide_true, if_true] at hz ⊢
         rw [eF, hz]
         simp
       . have := h v hv
         simpa [cnt, gC, hav] using this
     . have := h v hv
       have j5 : cnt v (e :: es) <= cnt v (a :: e :: es) := by
        by_cases hav : a.v = v <;> simp [cnt, gC, hav]
       omega
theorem Y0v {es : List Ent} (h : Z3j es = true) : Z3b es = es.all (fun e => decide (e.v.k = 0) || decide ((Zb4 (fun w => decide (w = e.v)) es).length = 1)) := by
 have hp := Y50 h
 have hf : ∀ v : Val, (Zb4 (fun w => decide (w = v)) es).length = cnt v es := fun v => by
  unfold Zb4
  rw [if_pos h]
  unfold Zgn
  rw [dN]
 have key : (∃ q, Zv Zcl 0 none es = .inl q) ↔ ∀ v : Val, ¬ v.k = 0 -> cnt v es <= 1 := by
  cases es with
  | nil => exact ⟨fun _ _ _ => by simp [cnt], fun _ => ⟨none, rfl⟩⟩
  | cons e es =>
    have : Zv Zcl 0 none (e :: es) = Zv Zcl 1 (some e) es := by rw [Zv]; rfl
    rw [this]
    exact Zqu es e 1 hp
 have hi : Z3b es = true ↔ ∃ q, Zv Zcl 0 none es = .inl q := by
  unfold Z3b
  rw [h, gY]
  cases Zv Zcl 0 none es with
  | inl q => simp
  | inr q => simp
 rw [Bool.eq_iff_iff, hi, key, cY]
 refine ⟨fun hv e he => ?_, fun hv v hk => ?_⟩
 . rw [fN, eJ, eJ, hf]
   by_cases hk : e.v.k = 0
   . exact .inl hk
   . have h1 := hv e.v hk
     have h2 : 0 < cnt e.v es := List.length_pos_of_mem (List.mem_filter.2 ⟨he, by simp⟩)
     exact .inr (by omega)
 . cases hc : es.filter (fun x => decide (x.v = v)) with
   | nil => simp [cnt, hc]
   | cons e r =>
     have he : e ∈ es.filter (fun x => decide (x.v = v)) := by rw [hc]; simp
     have j0 := List.mem_filter.1 he
     have j1 : e.v = v := by simpa using j0.2
     have := hv e j0.1
     rw [fN, eJ, eJ, hf, j1] at this
     rcases this with h | h
     . exact absurd h hk
     . omega
def EL (a b : Ent) : Prop := Ym a b = true
theorem Zn5 (a b : Ent) : Ym a b = true ↔ Xh a.v b.v = true \/ (a.v = b.v /\ a.id < b.id) := by
 unfold Ym
 by_cases h : a.v = b.v
 . rw [h, Z61]; simp
 . simp [h]
theorem Zqj {a b c : Ent} (h1 : Ym a b = true) (h2 : Ym b c = true) : Ym a c = true := by
 rw [Zn5] at *
 rcases h1 with h1 | ⟨e1, h1⟩
 . rcases h2 with h2 | ⟨e2, h2⟩
   . exact .inl (Z7q _ _ _ h1 h2)
   . exact .inl (e2 ▸ h1)
 . rcases h2 with h2 | ⟨e2, h2⟩
   . exact .inl (e1 ▸ h2)
   . exact .inr ⟨e1.trans e2, by omega⟩
theorem Zrd : ∀ (es : List Ent) (a : Ent), Z5g (some a) es = true -> (a :: es).Pairwise EL
 | [], a, _ => by simp
 | e :: es, a, h => by
   have he : Z5g (some a) (e :: es) = (Zm7 (some a) e && Z5g (some e) es) := rfl
   rw [he, dQ] at h
   have ih := Zrd es e h.2
   have h1 := h.1
   unfold Zm7 at h1
   simp only [dQ] at h1
   rw [fA]
   refine ⟨fun x hx => ?_, ih⟩
   rcases eK.1 hx with rfl | hx
   . exact h1.2
   . exact Zqj h1.2 ((fA.1 ih).1 x hx)
theorem Zpt : ∀ (es : List Ent) (p : Option Ent), (∀ e ∈ es, Zet e = true) -> es.Pairwise EL -> (∀ a, p = some a -> ∀ e ∈ es, Ym a e = true) -> Z5g p es = true
 | [], _, _, _, _ => rfl
 | e :: es, p, h1, h2, h3 => by
   have he : Z5g p (e :: es) = (Zm7 p e && Z5g (some e) es) := rfl
   have j0 := fA.1 h2
   rw [he, dQ]
   refine ⟨?_, Zpt es (some e) (fun x hx => h1 x (by simp [hx])) j0.2 (fun a ha x hx => by cases ha; exact j0.1 x hx)⟩
   unfold Zm7
   rw [dQ]
   refine ⟨h1 e (by simp), ?_⟩
   cases p with
   | none => rfl
   | some a => exact h3 a rfl e (by simp)
theorem Y9x (es : List Ent) : Z3j es = true ↔ (∀ e ∈ es, Zet e = true) /\ es.Pairwise EL /\ (es.length : Int) <= 16 := by
 unfold Z3j
 rw [dQ, eJ]
 refine ⟨fun h => ⟨Zqp es none h.1, ?_, h.2⟩, fun h => ⟨Zpt es none h.1 h.2.1 (fun a ha => by cases ha), h.2.2⟩⟩
 cases es with
 | nil => exact .nil
 | cons e es =>
   have he : Z5g none (e :: es) = (Zm7 none e && Z5g (some e) es) := rfl
   have h1 := h.1
   rw [he, dQ] at h1
   exact Zrd es e h1.2
theorem Zm1 {e : Ent} : ∀ (a b : List Ent) (i : Nat), (∀ x ∈ a, Ym x e = true) -> (∀ x ∈ b, Ym x e = false) -> b ≠ [] -> Zv (Znf e) i () (a ++ b) = .inr (i + a.length)
 | [], b, i, _, hb, hn => by
   cases b with
   | nil => exact absurd rfl hn
   | cons x b => simp [Zv, Znf, hb x (by simp)]
 | x :: a, b, i, ha, hb, hn => by
   show Zv (Znf e) i () (x :: (a ++ b)) = _
   unfold Zv Znf
   simp only [ha x (by simp), cond_true]
   rw [show (fun i (_ : Unit) x => bif Ym x e then (Sum.inl () : Unit ⊕ Nat) else Sum.inr i) = Znf e from rfl, Zm1 a b (i + 1) (fun y hy => ha y (by simp [hy])) hb hn]
   simp
   omega
theorem Zu9 {e : Ent} : ∀ (a : List Ent) (i : Nat), (∀ x ∈ a, Ym x e = true) -> Zv (Znf e) i () a = .inl ()
 | [], i, _ => rfl
 | x :: a, i, ha => by
   unfold Zv Znf
   simp only [ha x (by simp), cond_true]
   exact Zu9 a (i + 1) (fun y hy => ha y (by simp [hy]))
theorem Y44 {e : Ent} (a b : List Ent) (ha : ∀ x ∈ a, Ym x e = true) (hb : ∀ x ∈ b, Ym x e = false) : Zpb e (a ++ b) = a.length := by
 unfold Zpb
 by_cases hn : b = []
 . subst hn
   rw [fD, Zu9 a 0 ha]
 . rw [Zm1 a b 0 ha hb hn, dF]
theorem Y3l {e : Ent} (a b : List Ent) (ha : ∀ x ∈ a, Ym x e = true) (hb : ∀ x ∈ b, Ym x e = false) : Zfm e (a ++ b) = a ++ e :: b := by
 unfold Zfm
 rw [Y44 a b ha hb, List.take_left, List.drop_left]
 simp
theorem Zl4 {D : Nat} (es : List Ent) (hl : es.length <= big) :
 Vg (Zd (Zj (aH D) Zxt) [0, 1, 5] rounds ⟨upd (upd (upd (fun _ => .bad) 0 (.lit Z5 (es.map Ent.c))) 1 (.lit Z5 (es.map Ent.c))) 5 (.n (0 : Nat)), fun _ => none, 0, 0⟩) Unit Unit (Zv (fun _ _ _ => .inl ()) 0 () es)
  (fun m o => ∃ U', o = .exit 0 U') (fun _ o => False) := by
 refine Zt es (fun i (_ : Unit) => ⟨upd (upd (upd (fun _ => .bad) 0 (.lit Z5 (es.map Ent.c))) 1 (.lit Z5 (es.map Ent.c))) 5 (.n i), fun _ => none, 0, 0⟩) _ (fun _ _ => True) _ _ () trivial hl (fun i m e K hc hlt hi => ?_) (fun m K _ => ?_)
 . have hr := Zq (f := Ent.c) hc
   have hw := Zk (n := i) (by unfold big at hl; omega)
   simp only [Zd, Y2u, Zq8, go_sem, dN, hr, hlt, hw]
 . have hi : ¬ es.length < es.length := by omega
   simp only [Zd, Y2u, Zq8, go_sem, dN, hi]
   exact ⟨_, rfl, _, rfl⟩
theorem Zpf {D : Nat} (hD : 1 <= D) (es : List Ent) (hl : es.length <= big) : den pr D Yal [.lit Z5 (es.map Ent.c), .lit Z5 (es.map Ent.c)] = some [.q true] := by
 obtain ⟨D, rfl, hd⟩ := Zc hD
 rw [Yep]
 obtain ⟨out, lo, lp⟩ := Zl4 (D := D) es hl
 rw [Zb5] at lp
 obtain ⟨U', rfl⟩ := lp
 rw [show ((0 : Nat) : Int) = 0 from rfl] at lo
 simp only [Ycn, go_sem, dN, lo]
end Go.Vm.T
namespace Go.Vm.T
open Go.Proofs
variable [Pr2]
abbrev Yax (a b : RowV) : Prop := a.id < b.id
theorem Zep {t : Tab} {m : Int} : ∀ {rs : List RowV} {i : Nat} {last : Int}, Zv (Zc8 t) i last rs = .inl m -> (∀ r ∈ rs, last < r.id /\ r.id <= t.next - 1 /\ Z5e (Z9 t) (Wf t r) = true) /\ rs.Pairwise Yax
 | [], i, last, _ => ⟨fun r h => (nomatch h), List.Pairwise.nil⟩
 | x :: rs, i, last, hr => by
   unfold Zv Zc8 at hr
   cases hq : inB x.id (last + 1) (t.next - 1) && (inB x.ver 0 t.chg.length && (Z5e ((chgs t.first (t.chg.take x.ver.toNat)).getD []) x.vals && Z5e (Z9 t) (Wf t x))) with
   | false => rw [hq] at hr; cases hr
   | true =>
     rw [hq] at hr
     simp only [dQ] at hq
     obtain ⟨h1, _, _, h4⟩ := hq
     have j0 : last + 1 <= x.id /\ x.id <= t.next - 1 := by unfold inB at h1; simpa using h1
     obtain ⟨g1, g2⟩ := Zep (t := t) (rs := rs) hr
     refine ⟨fun r h => ?_, fA.2 ⟨fun r h => (g1 r h).1, g2⟩⟩
     rcases eK.1 h with rfl | h
     . exact ⟨by omega, j0.2, h4⟩
     . have := g1 r h
       exact ⟨by omega, this.2⟩
structure RowP (t : Tab) : Prop where
 ids : t.rows.Pairwise Yax
 lo : ∀ r ∈ t.rows, 1 <= r.id
 hi : ∀ r ∈ t.rows, r.id <= 59
 ok : ∀ r ∈ t.rows, Z5e (Z9 t) (Wf t r) = true
theorem TabOk.rowP {t : Tab} (T : TabOk t) : RowP t := by
 have h := T.rows
 unfold Zde at h
 split at h
 . rename_i m hm
   obtain ⟨g1, g2⟩ := Zep hm
   have := T.next
   exact ⟨g2, fun r hr => by have := (g1 r hr).1; omega, fun r hr => by have := (g1 r hr).2.1; omega, fun r hr => (g1 r hr).2.2⟩
 . cases h
theorem Ztn {s : List ColV} : ∀ {row : List Val} {i : Nat}, Zv (Zvq s) i () row = .inl () -> ∀ (k : Nat) (v : Val), row[k]? = some v -> rOk s (i + k) v = true
 | [], i, _, k, v, h => by simp at h
 | x :: row, i, hr, k, v, h => by
   unfold Zv Zvq at hr
   cases hx : rOk s i x with
   | false => rw [hx] at hr; cases hr
   | true =>
     rw [hx] at hr
     cases k with
     | zero => simp at h; subst h; exact hx
     | succ k =>
       have := Ztn (s := s) (row := row) (i := i + 1) hr k v (by simpa using h)
       rw [show i + 1 + k = i + (k + 1) by omega] at this
       exact this
theorem Y00 {s : List ColV} {row : List Val} (h : Z5e s row = true) {k : Nat} {v : Val} (hv : row[k]? = some v) : ∃ c, s[k]? = some c /\ Z1b v = true /\ Zix v c.k = true := by
 unfold Z5e at h
 rw [dQ] at h
 have h2 := h.2
 split at h2
 . rename_i u hu
   have := Ztn hu k v hv
   rw [dF] at this
   unfold rOk at this
   cases hc : s[k]? with
   | none => rw [hc] at this; cases this
   | some c =>
     rw [hc] at this
     simp only [dQ] at this
     exact ⟨c, rfl, this.1, this.2.1⟩
 . cases h2
theorem Zul {id : Int} : ∀ {rs : List RowV} {i k : Nat}, Zv (idG id) i () rs = .inr k -> ∃ j r, k = i + j /\ rs[j]? = some r /\ r.id = id
 | [], i, k, h => nomatch h
 | x :: rs, i, k, h => by
   unfold Zv idG at h
   by_cases hx : x.id = id
   . simp only [hx, decide_true, cond_true] at h
     cases h
     exact ⟨0, x, rfl, rfl, hx⟩
   . simp only [hx, decide_false, cond_false] at h
     obtain ⟨j, r, h1, h2, h3⟩ := Zul (id := id) (rs := rs) (i := i + 1) h
     exact ⟨j + 1, r, by omega, by simpa using h2, h3⟩
theorem Zxn {id : Int} : ∀ {rs : List RowV} {i : Nat} {u : Unit}, Zv (idG id) i () rs = .inl u -> ∀ r ∈ rs, ¬ r.id = id
 | [], i, u, h, r, hr => nomatch hr
 | x :: rs, i, u, h, r, hr => by
   unfold Zv idG at h
   by_cases hx : x.id = id
   . simp only [hx, decide_true, cond_true] at h
     cases h
   . simp only [hx, decide_false, cond_false] at h
     rcases eK.1 hr with rfl | hr
     . exact hx
     . exact Zxn h r hr
theorem Zu3 {id : Int} {rs : List RowV} {j : Nat} (h : Zpj id rs = some j) : ∃ r, rs[j]? = some r /\ r.id = id := by
 unfold Zpj at h
 cases hr : Zv (idG id) 0 () rs with
 | inl u => rw [hr] at h; cases h
 | inr k =>
   rw [hr] at h
   cases h
   obtain ⟨j', r, h1, h2, h3⟩ := Zul hr
   rw [dF] at h1
   subst h1
   exact ⟨r, h2, h3⟩
theorem Zy4 {id : Int} {rs : List RowV} (h : Zpj id rs = none) : ∀ r ∈ rs, ¬ r.id = id := by
 unfold Zpj at h
 cases hr : Zv (idG id) 0 () rs with
 | inl u => exact Zxn hr
 | inr k => rw [hr] at h; cases h
theorem Zvi : ∀ {rs : List RowV}, rs.Pairwise Yax -> ∀ {a b : RowV}, a ∈ rs -> b ∈ rs -> a.id = b.id -> a = b
 | [], _, a, b, ha, _, _ => nomatch ha
 | x :: rs, h, a, b, ha, hb, e => by
   obtain ⟨h1, h2⟩ := fA.1 h
   rcases eK.1 ha with rfl | ha
   . rcases eK.1 hb with rfl | hb
     . rfl
     . have : a.id < b.id := h1 b hb
       omega
   . rcases eK.1 hb with hb | hb
     . have : x.id < a.id := h1 a ha
       rw [hb] at e
       omega
     . exact Zvi h2 ha hb e
theorem Y42 {t : Tab} (T : TabOk t) (hok : V3 t = true) {r : RowV} (hr : r ∈ t.rows) : Y7y t r.id = (Wf t r, true) := by
 unfold Y7y
 rw [if_pos hok]
 cases hj : Zpj r.id t.rows with
 | none => exact absurd rfl (Zy4 hj r hr)
 | some j =>
   obtain ⟨r', h1, h2⟩ := Zu3 hj
   have := Zvi T.rowP.ids (dY h1) hr h2
   subst this
   simp [List.getD, h1]
theorem Y22 {a b : Ent} (h : ¬ a = b) (h1 : Ym a b = false) : Ym b a = true := by
 rw [Zn5]
 by_cases hv : a.v = b.v
 . right
   refine ⟨hv.symm, ?_⟩
   have h2 : ¬ a.id < b.id := fun q => by rw [(Zn5 a b).2 (.inr ⟨hv, q⟩)] at h1; cases h1
   have h3 : ¬ a.id = b.id := fun q => h (by obtain ⟨av, ai⟩ := a; obtain ⟨bv, bi⟩ := b; simp only at hv q; rw [hv, q])
   omega
 . left
   cases h2 : Xh b.v a.v with
   | true => rfl
   | false =>
     have h3 : Xh a.v b.v = false := by
      cases h4 : Xh a.v b.v with
      | false => rfl
      | true => rw [(Zn5 a b).2 (.inl h4)] at h1; cases h1
     exact absurd (Z77 _ _ h3 h2) hv
theorem Zqg (e : Ent) : ∀ (es : List Ent), es.Pairwise EL -> ∃ a b, es = a ++ b /\ (∀ x ∈ a, Ym x e = true) /\ ∀ x ∈ b, Ym x e = false
 | [], _ => ⟨[], [], rfl, fun x h => (nomatch h), fun x h => (nomatch h)⟩
 | x :: es, h => by
   obtain ⟨h1, h2⟩ := fA.1 h
   cases hx : Ym x e with
   | true =>
     obtain ⟨a, b, rfl, ha, hb⟩ := Zqg e es h2
     exact ⟨x :: a, b, rfl, fun y hy => by
      rcases eK.1 hy with rfl | hy
      . exact hx
      . exact ha y hy, hb⟩
   | false =>
     refine ⟨[], x :: es, rfl, fun y hy => (nomatch hy), fun y hy => ?_⟩
     rcases eK.1 hy with rfl | hy
     . exact hx
     . cases hye : Ym y e with
       | false => rfl
       | true => rw [Zqj (h1 y hy) hye] at hx; cases hx
theorem Y5p {e : Ent} {es : List Ent} (h : es.Pairwise EL) (hne : e ∉ es) : ∃ a b, es = a ++ b /\ Zfm e es = a ++ e :: b /\ (a ++ e :: b).Pairwise EL /\ (∀ x ∈ a, Ym x e = true) /\ ∀ x ∈ b, Ym x e = false := by
 obtain ⟨a, b, rfl, ha, hb⟩ := Zqg e es h
 refine ⟨a, b, rfl, Y3l a b ha hb, ?_, ha, hb⟩
 obtain ⟨h1, h2, h3⟩ := List.pairwise_append.1 h
 refine List.pairwise_append.2 ⟨h1, fA.2 ⟨fun x hx => Y22 (fun q => hne (by simp [<- q, hx])) (hb x hx), h2⟩, fun x hx y hy => ?_⟩
 rcases eK.1 hy with rfl | hy
 . exact ha x hx
 . exact h3 x hx y hy
abbrev vIs (v : Val) (e : Ent) : Bool := decide (e.v = v)
theorem Zke (t : Tab) (k : Nat) : ∀ (rs : List RowV) (es : List Ent), es.Pairwise EL -> (∀ e ∈ es, ∀ r ∈ rs, e.id < r.id) -> rs.Pairwise Yax ->
 (rs.foldl (fun es r => Zfm (Z1a t k r) es) es).Pairwise EL /\ (∀ e ∈ rs.foldl (fun es r => Zfm (Z1a t k r) es) es, e ∈ es \/ ∃ r ∈ rs, e = Z1a t k r) /\
 ∀ v, (rs.foldl (fun es r => Zfm (Z1a t k r) es) es).filter (vIs v) = es.filter (vIs v) ++ (rs.filter (fun r => decide ((Wf t r).getD k zV = v))).map (Z1a t k)
 | [], es, h1, _, _ => ⟨h1, fun e he => .inl he, fun v => by simp⟩
 | r :: rs, es, h1, h2, h3 => by
   obtain ⟨p1, p2⟩ := fA.1 h3
   have j0 : Z1a t k r ∉ es := fun q => by have := h2 _ q r (by simp); simp only at this; omega
   obtain ⟨a, b, rfl, e1, e2, ha, hb⟩ := Y5p h1 j0
   rw [List.foldl_cons, e1]
   obtain ⟨g1, g2, g3⟩ := Zke t k rs (a ++ Z1a t k r :: b) e2 (fun e he x hx => by
    rcases dW.1 he with he | he
    . exact h2 e (by simp [he]) x (by simp [hx])
    . rcases eK.1 he with rfl | he
      . exact p1 x hx
      . exact h2 e (by simp [he]) x (by simp [hx])) p2
   refine ⟨g1, fun e he => ?_, fun v => ?_⟩
   . rcases g2 e he with he | ⟨x, hx, rfl⟩
     . rcases dW.1 he with he | he
       . exact .inl (by simp [he])
       . rcases eK.1 he with rfl | he
         . exact .inr ⟨r, by simp, rfl⟩
         . exact .inl (by simp [he])
     . exact .inr ⟨x, by simp [hx], rfl⟩
   . rw [g3 v]
     rw [List.filter_append, List.filter_append, gC, gC]
     by_cases hv : (Wf t r).getD k zV = v
     . have j1 : b.filter (vIs v) = [] := by
        rw [gW]
        intro x hx q
        have q' : x.v = v := by simpa [vIs] using q
        have h4 := hb x hx
        have h5 := h2 x (by simp [hx]) r (by simp)
        rw [(Zn5 x (Z1a t k r)).2 (.inr ⟨q'.trans hv.symm, h5⟩)] at h4
        cases h4
       simp only [vIs, Z1a, hv, decide_true, if_true, j1, fD]
       rw [fO]
       simp only [Z1a, hv, gO, gT, dH]
     . simp only [vIs, Z1a, hv, decide_false, eH, if_false]
structure IdxP (t : Tab) (k : Nat) : Prop where
 pw : (Z66 t k).Pairwise EL
 mem : ∀ e ∈ Z66 t k, ∃ r ∈ t.rows, e = Z1a t k r
 len : (Z66 t k).length = t.rows.length
 at_ : ∀ v, (Z66 t k).filter (vIs v) = (t.rows.filter (fun r => decide ((Wf t r).getD k zV = v))).map (Z1a t k)
theorem TabOk.idxP {t : Tab} (T : TabOk t) (k : Nat) : IdxP t k := by
 obtain ⟨h1, h2, h3⟩ := Zke t k t.rows [] .nil (fun e he => nomatch he) T.rowP.ids
 refine ⟨h1, fun e he => (h2 e he).resolve_left (fun q => nomatch q), Zie t k, fun v => ?_⟩
 have := h3 v
 rw [List.filter_nil, dH] at this
 exact this
theorem Zot {t : Tab} (T : TabOk t) {k : Nat} (hk : k < (Z9 t).length) {r : RowV} (hr : r ∈ t.rows) : (Wf t r)[k]? = some ((Wf t r).getD k zV) := Zc1 (by rw [Z3o (T.once.rows r hr)]; exact hk)
theorem Zub {t : Tab} (T : TabOk t) {k : Nat} (hk : k < (Z9 t).length) : Z3j (Z66 t k) = true := by
 have I := T.idxP k
 have R := T.rowP
 rw [Y9x]
 refine ⟨fun e he => ?_, I.pw, by rw [I.len]; have := T.rlen; omega⟩
 obtain ⟨r, hr, rfl⟩ := I.mem e he
 obtain ⟨c, h1, h2, h3⟩ := Y00 (R.ok r hr) (Zot T hk hr)
 unfold Zet
 have a1 := R.lo r hr
 have a2 := R.hi r hr
 simp only [h2, eZ, inB, dQ, eJ]
 omega
theorem Zbh (v : Val) (es : List Ent) : Zgn (fun w => decide (w = v)) es = (es.filter (vIs v)).map Ent.id := rfl
theorem Y1u {t : Tab} (T : TabOk t) {nm : ByteArray} {k : Nat} (hn : Z6s nm (Z9 t) = some k) (hok : V3 t = true) (v : Val) : Zb4 (fun w => decide (w = v)) (Z66 t k) = Zkq t nm v := by
 unfold Zb4 Zkq
 rw [if_pos (Zub T (Z0p hn)), if_pos hok, Zbh, (T.idxP k).at_ v, List.map_map]
 congr 1
 apply List.filter_congr
 intro r _
 unfold Y20
 rw [hn]
theorem Zq0 {c : ColV} (hc : c.once = true) {v : Val} (hv : v.k ≠ 0) : ∀ {vs : List Val} {i : Nat} {keys ks : List Val}, Zv (Zni c) i keys vs = .inl ks -> (v ∈ keys -> v ∉ vs) /\ (vs.filter (fun x => decide (x = v))).length <= 1
 | [], i, keys, ks, _ => ⟨fun _ h => (nomatch h), dG _⟩
 | x :: vs, i, keys, ks, h => by
   unfold Zv Zni at h
   by_cases q : c.once = true /\ x.k ≠ 0 /\ x ∈ keys
   . rw [if_pos q] at h; cases h
   . rw [if_neg q] at h
     obtain ⟨g1, g2⟩ := Zq0 hc hv (vs := vs) (keys := Zos keys x) h
     have j1 : x ∈ Zos keys x := by unfold Zos; split <;> simp_all
     have j0 : ∀ y ∈ keys, y ∈ Zos keys x := fun y hy => by unfold Zos; split <;> simp_all
     by_cases hx : x = v
     . subst hx
       refine ⟨fun hk => absurd ⟨hc, hv, hk⟩ q, ?_⟩
       have : vs.filter (fun y => decide (y = x)) = [] := by
        rw [gW]
        intro y hy he
        have : y = x := by simpa using he
        subst this
        exact g1 j1 hy
       simp [this]
     . refine ⟨fun hk hm => ?_, by simp [hx]; exact g2⟩
       rcases eK.1 hm with rfl | hm
       . exact hx rfl
       . exact g1 (j0 v hk) hm
theorem Zua {t : Tab} : ∀ {cs : List ColV} {i : Nat}, Zv (Zt7 t) i () cs = .inl () -> ∀ (k : Nat) (c : ColV), cs[k]? = some c -> Zzn c (Vj t (i + k)) = true
 | [], i, _, k, c, h => by simp at h
 | x :: cs, i, hr, k, c, h => by
   unfold Zv Zt7 at hr
   cases hx : Zzn x (Vj t i) with
   | false => rw [hx] at hr; cases hr
   | true =>
     rw [hx] at hr
     cases k with
     | zero => simp at h; subst h; exact hx
     | succ k =>
       have := Zua (t := t) (cs := cs) (i := i + 1) hr k c (by simpa using h)
       rw [show i + 1 + k = i + (k + 1) by omega] at this
       exact this
theorem Y14 {t : Tab} (T : TabOk t) {k : Nat} {c : ColV} (hc : (Z9 t)[k]? = some c) (ho : c.once = true) {v : Val} (hv : v.k ≠ 0) : (t.rows.filter (fun r => decide ((Wf t r).getD k zV = v))).length <= 1 := by
 have h := T.tab
 unfold Zp0 at h
 split at h
 . rename_i u hu
   have := Zua hu k c hc
   rw [dF] at this
   unfold Zzn at this
   split at this
   . rename_i ks j0
     have := (Zq0 ho hv j0).2
     unfold Vj at this
     rw [List.filter_map, dN] at this
     exact this
   . cases this
 . cases h
theorem Zzj {t : Tab} (T : TabOk t) {k : Nat} {c : ColV} (hc : (Z9 t)[k]? = some c) (ho : c.once = true) : Z3b (Z66 t k) = true := by
 have hk : k < (Z9 t).length := (dU.1 hc).1
 have hi := Zub T hk
 rw [Y0v hi, cY]
 intro e he
 by_cases hz : e.v.k = 0
 . simp [hz]
 . have h1 := Y14 T hc ho hz
   rw [fN]
   right
   unfold Zb4
   rw [if_pos hi, Zbh]
   have h2 : e ∈ (Z66 t k).filter (vIs e.v) := by simp [vIs, he]
   have h3 := List.length_pos_of_mem h2
   rw [(T.idxP k).at_ e.v] at h3
   rw [(T.idxP k).at_ e.v]
   simp only [dN] at h3 ⊢
   simp only [eJ]
   omega
theorem Zgp {t : Tab} (T : TabOk t) {k : Nat} (hk : k < (Z9 t).length) : Small (Z66 t k) := by
 have I := T.idxP k
 refine ⟨by rw [I.len]; have := T.rlen; unfold big; omega, fun e he => ?_⟩
 obtain ⟨r, hr, rfl⟩ := I.mem e he
 have hn := T.once.rows r hr
 exact (Z4x hn.vals (fun c hc => T.once.small.chg c (eS hc)) : V9 (Wf t r)) _ (dY (Zot T hk hr))
theorem Zxw (t : Tab) (nm : ByteArray) (v : Val) : (Zkq t nm v).length <= t.rows.length := by
 unfold Zkq
 split
 . rw [dN]; exact List.length_filter_le _ _
 . exact dG _
abbrev Y9u (t : Tab) (nm : ByteArray) (k : Nat) (es : List Ent) (i : Nat) : St := ⟨upd (upd (upd (upd (upd (fun _ => .bad) 3 (.ptr 0 0 0)) 4 (.s nm)) 5 (cV Z5 1 es.length false)) 6 (.n (k : Int))) 7 (.n (i : Nat)), upd (upd (fun _ => none) 0 (cT Z1 [t.c])) 1 (cU Z5 (es.map Ent.c)), 2, 0⟩
set_option maxHeartbeats 4000000 in
theorem Zm8 {D : Nat} (hD : 10 <= D) (t : Tab) (ht : SmallT t) (hok : V3 t = true) (T : TabOk t) (nm : ByteArray) (k : Nat) (hk : Z6s nm (Z9 t) = some k) :
 Vg (Zd (Zj (aH D) Zvp) [3, 4, 5, 6, 7] rounds (Y9u t nm k (Z66 t k) 0)) Unit Unit (Zv (fun _ _ _ => .inl ()) 0 () (Z66 t k))
  (fun m o => ∃ U', o = .exit 0 U' /\ U'.n = 2 /\ U'.base = 0 /\ U'.s 3 = .ptr 0 0 0 /\ U'.s 5 = .ref Z5 1 0 (Z66 t k).length (Z66 t k).length false /\ U'.s 6 = .n (k : Int) /\ U'.h = upd (upd (fun _ => none) 0 (cT Z1 [t.c])) 1 (some ⟨Z5, (Z66 t k).map Ent.c, true, false⟩)) (fun _ o => False) := by
 have j0 := Z0p hk
 have hs := Zgp T j0
 have I := T.idxP k
 have j6 := fun v => Y1u T hk hok v
 refine Zt (Z66 t k) (fun i (_ : Unit) => Y9u t nm k (Z66 t k) i) _ (fun _ _ => True) _ _ () trivial hs.len (fun i m e K hc hlt hi => ?_) (fun m K _ => ?_)
 . have hl := hs.len
   have hr := Zq (f := Ent.c) hc
   have hw := Zk (n := i) (by unfold big at hl; omega)
   obtain ⟨r, j2, rfl⟩ := I.mem e (dY hc)
   have j1 := Zot T j0 j2
   have j4 := Zq (f := Val.c) j1
   have e1 := Zsm (show 10 <= D by omega) t ht r.id
   rw [Y42 T hok j2] at e1
   have j3 := Z3o (T.once.rows r j2)
   have j5 : k < (Wf t r).length := by rw [j3]; exact j0
   simp only [Z1a] at *
   have e2 := Znt (show 6 <= D by omega) (Z66 t k) ((Wf t r).getD k zV) hs
   rw [j6] at e2
   have e3 := Zo7 (show 10 <= D by omega) t ht nm ((Wf t r).getD k zV)
   have e4 := Y0c (show 1 <= D by omega) (Zkq t nm ((Wf t r).getD k zV)) (eI (Zxw _ _ _) ht.rlen)
   generalize (Wf t r).getD k zV = v at *
   generalize Zkq t nm v = fs at *
   generalize Wf t r = row at *
   generalize r.id = id at *
   generalize Z66 t k = es at *
   have k0 := eP k
   have kt := eQ k
   simp only [Y9u, Zd, Y31, Zqk, go_sem, dN, hr, j4, j5, hlt, hw, k0, kt, e1, e2, e3, e4, Zb, Z6o, Zsa, Zp, dO, if_true]
 . have hi : ¬ (Z66 t k).length < (Z66 t k).length := by omega
   simp only [Y9u, Zd, Y31, Zqk, go_sem, dN, hi]
   exact ⟨_, rfl, _, rfl, rfl, rfl, rfl, rfl, rfl, rfl⟩
set_option maxHeartbeats 4000000 in
theorem Zp7 {D : Nat} (hD : 17 <= D) (ns : List Int) (hb : Bytes ns) : den pr D Yan [.lit Vf (ns.map u8C)] = some [.q true] := by
 obtain ⟨D, rfl, hd⟩ := Zc hD
 rw [Ydw]
 by_cases hn : (1048576 : Int) < (ns.length : Int)
 . simp only [Y7c, go_sem, dN, hn]
 . obtain ⟨t, nm, ht, e0⟩ := Zk0 (show 16 <= D by omega) ns hb
   have e1 := Zwd (show 10 <= D by omega) t ht nm
   have e2 := Zfr (show 12 <= D by omega) t ht nm
   have e5 := Zkm (show 10 <= D by omega) t ht
   have j7 := Zw1 ht
   have e6 := Zwv (show 5 <= D by omega) (Z74 t) j7.2 nm
   have ja := Zmg t nm
   have j9 := ht.rlen
   have e3 := Zpf (show 1 <= D by omega) (Z15 t nm) (by omega)
   have m0 : (-1 : Int) < 0 := by decide
   have mz : ((0 : Nat) : Int) = 0 := rfl
   have ok0 : Z3j [] = true := rfl
   have nil_ : Z15 t nm = [] -> (if Zl (Z74 t) = true then nmI nm (Z74 t) else -1) = -1 -> den pr D V7 [.lit Z5 []] = some [.q true] -> Zbk (Zj (aH D) Y7c.code ⟨slots [.lit Vf (ns.map u8C)], fun _ => none, 0, 0⟩) (res Y7c.res) = some [.q true] := fun h1 h2 h3 => by
    rw [h1] at e1 e2 e3
    rw [h2] at e6
    simp only [dJ] at e1 e2 e3
    generalize Z74 t = cs at *
    simp only [Y7c, go_sem, dN, hn, e0, e1, e2, e3, e5, e6, h3, m0, Zb, Za, dO, Tab.c, dJ, if_true]
    try rfl
   have i0 := Zb3 (show 4 <= D by omega) [] ⟨dG _, fun e he => nomatch he⟩
   rw [ok0] at i0
   cases hok : V3 t with
   | false => exact nil_ (by unfold Z15; rw [hok]; rfl) (by unfold Z74; rw [hok]; rfl) i0
   | true =>
     have T := Z73 ht hok
     have j6 : Z74 t = Z9 t := by unfold Z74; rw [if_pos hok]
     cases hk : Z6s nm (Z9 t) with
     | none => exact nil_ (by unfold Z15; rw [if_pos hok, hk]) (by rw [j6, if_pos T.shape]; unfold nmI; rw [hk]) i0
     | some k =>
       have j1 := Z0p hk
       have j8 : Z15 t nm = Z66 t k := by unfold Z15; rw [if_pos hok, hk]
       have I := T.idxP k
       have hs := Zgp T j1
       have e4 := Zb3 (show 4 <= D by omega) (Z66 t k) hs
       rw [Zub T j1] at e4
       have e7 := Zp2 (show 5 <= D by omega) (Z66 t k) hs
       rw [j8] at e1 e2 e3
       rw [j6] at e5 e6
       rw [if_pos T.shape, show nmI nm (Z9 t) = (k : Int) by unfold nmI; rw [hk]] at e6
       obtain ⟨out, lo, lp⟩ := Zm8 (D := D) (by omega) t ht hok T nm k hk
       rw [Zb5] at lp
       obtain ⟨U', rfl, l1, l2, l3, l4, l5, l6⟩ := lp
       simp only [Y9u] at lo
       rw [show ((0 : Nat) : Int) = 0 from rfl] at lo
       have j4 : (Z9 t)[k]? = some (Z9 t)[k] := dS j1
       have j5 := Zq (f := ColV.c) j4
       have j0 : (Z9 t)[k].once = true -> Z3b (Z66 t k) = true := fun h => Zzj T j4 h
       have j2 := I.len
       generalize (Z9 t)[k] = cl at *
       obtain ⟨cn, ck, cd, co, cf⟩ := cl
       have k0 := eP k
       have kn : ¬ (k : Int) < 0 := by omega
       have kt := eQ k
       have j3 : ((Z66 t k).length : Int) = (t.rows.length : Int) := by rw [j2]
       generalize Z66 t k = es at *
       generalize Z9 t = cs at *
       generalize Z3b es = io at *
       simp only at j0
       cases co with
       | true =>
         rw [j0 rfl] at e7
         simp only [Y7c, go_sem, dN, hn, e0, e1, e2, e3, e4, e5, e6, e7, lo, l1, l2, l3, l4, l5, l6, k0, kn, kt, j1, j5, j3, Zb, Za, Z6o, dO, Tab.c, if_true]
       | false =>
         simp only [Y7c, go_sem, dN, hn, e0, e1, e2, e3, e4, e5, e6, e7, lo, l1, l2, l3, l4, l5, l6, k0, kn, kt, j1, j5, j3, Zb, Za, Z6o, dO, Tab.c, if_true]
end Go.Vm.T
end
