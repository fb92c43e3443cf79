/-
  What the functions under the law compute, of values, entries, sizes, columns, conditions
-/
import Derived.Test.YtcceojmajfinpaaGreatDoorCode
import Derived.Test.YtcceojmajfinpaaGreatDoorVmD
import Derived.IntWalk
section
set_option linter.unusedVariables false
set_option linter.unusedSimpArgs false
set_option linter.unusedSectionVars false
namespace Go.Vm.T
variable [Pr0]
structure Val where
 k : Int
 n : Int
 t : ByteArray
 deriving DecidableEq
abbrev Val.c (v : Val) : List A := [.n v.k, .n v.n, .s v.t]
structure Ent where
 v : Val
 id : Int
 deriving DecidableEq
abbrev Ent.c (e : Ent) : List A := [.n e.v.k, .n e.v.n, .s e.v.t, .n e.id]
theorem Zi7 (c x y : Bool) : (bif c then some [A.v (Value.bool x)] else some [A.v (Value.bool y)]) = some [A.v (Value.bool (bif c then x else y))] := by cases c <;> rfl
theorem Zc {D k : Nat} (h : k + 1 <= D) : ∃ d, D = d + 1 /\ k <= d := ⟨D - 1, by omega, by omega⟩
theorem wrap_i64 {n : Int} (h1 : -9223372036854775808 <= n) (h2 : n <= 9223372036854775807) : IntKind.i64.wrap n = n := IntWalk.i64_in _ (by exact ⟨h1, h2⟩)
theorem Zk {n : Nat} (h : n <= 9223372036854775806) : IntKind.i64.wrap ((n : Int) + 1) = ((n + 1 : Nat) : Int) := by
 rw [wrap_i64 (by omega) (by omega)]; rfl
def inB (n lo hi : Int) : Bool := decide (lo <= n) && decide (n <= hi)
theorem Y27 {D : Nat} (hD : 1 <= D) (n lo hi : Int) : den pr D Wt [.n n, .n lo, .n hi] = some [.q (inB n lo hi)] := by
 obtain ⟨D, rfl, hd⟩ := Zc hD
 rw [Zwh]
 simp only [Zfe, go_sem, inB]
def Xh (a b : Val) : Bool := bif !decide (a.k = b.k) then decide (a.k < b.k) else bif !decide (a.n = b.n) then decide (a.n < b.n) else W6 a.t.toList b.t.toList
theorem Zv8 {D : Nat} (hD : 1 <= D) (a b : Val) : den pr D Z2u [.agg a.c, .agg b.c] = some [.q (Xh a b)] := by
 obtain ⟨D, rfl, hd⟩ := Zc hD
 rw [Zfv]
 simp only [Z67, go_sem, Zi7, Xh]
theorem Zg1 {D : Nat} (hD : 1 <= D) (a b : Val) : den pr D Z2o [.agg a.c, .agg b.c] = some [.q (Xh a b)] := by
 obtain ⟨D, rfl, hd⟩ := Zc hD
 rw [Zg5]
 simp only [Z64, go_sem, Zi7, Xh]
def Y2i (c : UInt8) : Bool := (decide ((c.toNat : Int) < 97) || decide (122 < (c.toNat : Int))) && (decide ((c.toNat : Int) < 48) || decide (57 < (c.toNat : Int))) && !decide ((c.toNat : Int) = 45)
def okL (l : List UInt8) : Bool := l.all fun c => !Y2i c
theorem Zoo : ∀ (l : List UInt8) (i : Nat), (Zv (fun _ (_ : Unit) c => if Y2i c then .inr () else .inl ()) i () l : Unit ⊕ Unit) = if okL l then .inl () else .inr ()
 | [], i => rfl
 | c :: l, i => by
   unfold Zv
   have : okL (c :: l) = (!Y2i c && okL l) := rfl
   rw [this]
   cases Y2i c with
   | true => rfl
   | false => simp only [eH, if_false, fR, eZ]; exact Zoo l (i + 1)
def Z1b (v : Val) : Bool :=
 bif decide (v.k = 0) then decide (v.k = 0) && (decide (v.n = 0) && decide (v.t = ⟨#[]⟩))
 else bif decide (v.k = 1) then inB v.n (-999) 999 && decide (v.t = ⟨#[]⟩)
 else bif decide (v.k = 2) then bif okL v.t.data.toList then decide (v.n = 0) && decide ((v.t.size : Int) <= 4) else false
 else false
theorem Y1d (E : Env) (k n : Int) (t : ByteArray) (ht : t.size <= big) :
 Vg (Zd (Zj E Z6g) [1, 26, 27] rounds ⟨upd (upd (upd (fun _ => .bad) 1 (.ptr 0 0 0)) 26 (.n t.size)) 27 (.n (0 : Nat)), upd (fun _ => none) 0 (some ⟨Z2, [[.n k, .n n, .s t]], true, true⟩), 1, 0⟩) Unit Unit (if okL t.data.toList then .inl () else .inr ())
  (fun _ o => ∃ U', o = .exit 1 U' /\ U'.s 1 = .ptr 0 0 0 /\ U'.h 0 = some ⟨Z2, [[.n k, .n n, .s t]], true, true⟩) (fun _ o => ∃ U', o = .ret U' /\ U'.s 2 = .q false) := by
 rw [<- Zoo _ 0]
 have j1 : t.size = t.data.toList.length := Z8z t
 refine Zt t.data.toList (fun i (_ : Unit) => ⟨upd (upd (upd (fun _ => .bad) 1 (.ptr 0 0 0)) 26 (.n t.size)) 27 (.n i), upd (fun _ => none) 0 (some ⟨Z2, [[.n k, .n n, .s t]], true, true⟩), 1, 0⟩) _ (fun _ _ => True) _ _ () trivial (by rw [<- j1]; exact ht) (fun i _ c K hc hlt _ => ?_) (fun _ K _ => ?_)
 . have j0 : i < t.size := by omega
   have hw := Zk (n := i) (by unfold big at ht; omega)
   simp only [Zd, Za5, Z2q, go_sem, hc, j0, hw]
   have hb : Y2i c = ((decide ((c.toNat : Int) < 97) || decide (122 < (c.toNat : Int))) && (decide ((c.toNat : Int) < 48) || decide (57 < (c.toNat : Int))) && !decide ((c.toNat : Int) = 45)) := rfl
   rw [<- hb]
   cases Y2i c with
   | true => exact ⟨_, rfl, _, rfl, rfl⟩
   | false => exact rfl
 . have hi : ¬ t.data.toList.length < t.size := by omega
   simp only [Zd, Za5, Z2q, go_sem, hi]
   exact ⟨_, rfl, _, rfl, rfl, rfl⟩
theorem Zff {D : Nat} (hD : 2 <= D) (v : Val) (ht : v.t.size <= big) : den pr D Wx [.agg v.c] = some [.q (Z1b v)] := by
 obtain ⟨D, rfl, hd⟩ := Zc hD
 obtain ⟨k, n, t⟩ := v
 rw [Zlj]
 simp only at ht
 obtain ⟨out, lo, lp⟩ := Y1d (aH D) k n t ht
 rw [show ((0 : Nat) : Int) = 0 from rfl] at lo
 simp only [Z92, go_sem, Y27 hd, Z1b]
 cases h0 : decide (k = 0) with
 | true => simp only [go_sem]
 | false =>
   cases h1 : decide (k = 1) with
   | true => simp only [go_sem]
   | false =>
     cases h2 : decide (k = 2) with
     | false => simp only [go_sem]
     | true =>
       cases hl : okL t.data.toList with
       | true =>
         rw [hl] at lp
         obtain ⟨U', rfl, l2, l3⟩ := lp
         simp only [go_sem, lo, l2, l3]
       | false =>
         rw [hl] at lp
         obtain ⟨U', rfl, l2⟩ := lp
         simp only [go_sem, lo, l2]
theorem Z8g {D : Nat} (hD : 1 <= D) (n : Int) : den pr D Z1d [.n n] = some [.q (inB n (-999) 999)] := by
 obtain ⟨D, rfl, hd⟩ := Zc hD
 rw [Zl2]
 simp only [Z8x, go_sem, inB]
theorem Ztv (E : Env) (t : ByteArray) (ht : t.size <= big) :
 Vg (Zd (Zj E Z51) [0, 3] rounds ⟨upd (upd (fun _ => .bad) 0 (.s t)) 3 (.n (0 : Nat)), fun _ => none, 0, 0⟩) Unit Unit (if okL t.data.toList then .inl () else .inr ())
  (fun _ o => ∃ U', o = .exit 0 U' /\ U'.s 0 = .s t) (fun _ o => ∃ U', o = .ret U' /\ U'.s 2 = .q false) := by
 rw [<- Zoo _ 0]
 have j1 : t.size = t.data.toList.length := Z8z t
 refine Zt t.data.toList (fun i (_ : Unit) => ⟨upd (upd (fun _ => .bad) 0 (.s t)) 3 (.n i), fun _ => none, 0, 0⟩) _ (fun _ _ => True) _ _ () trivial (by rw [<- j1]; exact ht) (fun i _ c K hc hlt _ => ?_) (fun _ K _ => ?_)
 . have j0 : i < t.size := by omega
   have hw := Zk (n := i) (by unfold big at ht; omega)
   simp only [Zd, Z8o, Z1u, go_sem, hc, j0, hw]
   have hb : Y2i c = ((decide ((c.toNat : Int) < 97) || decide (122 < (c.toNat : Int))) && (decide ((c.toNat : Int) < 48) || decide (57 < (c.toNat : Int))) && !decide ((c.toNat : Int) = 45)) := rfl
   rw [<- hb]
   cases Y2i c with
   | true => exact ⟨_, rfl, _, rfl, rfl⟩
   | false => exact rfl
 . have hi : ¬ t.data.toList.length < t.size := by omega
   simp only [Zd, Z8o, Z1u, go_sem, hi]
   exact ⟨_, rfl, _, rfl, rfl⟩
theorem Zjs {D : Nat} (hD : 1 <= D) (t : ByteArray) (ht : t.size <= big) : den pr D Z47 [.s t] = some [.q (bif okL t.data.toList then decide ((t.size : Int) <= 4) else false)] := by
 obtain ⟨D, rfl, hd⟩ := Zc hD
 rw [Zjp]
 obtain ⟨out, lo, lp⟩ := Ztv (aH D) t ht
 rw [show ((0 : Nat) : Int) = 0 from rfl] at lo
 simp only [Z7p, go_sem]
 cases hl : okL t.data.toList with
 | true =>
   rw [hl] at lp
   obtain ⟨U', rfl, l2⟩ := lp
   simp only [go_sem, lo, l2]
 | false =>
   rw [hl] at lp
   obtain ⟨U', rfl, l2⟩ := lp
   simp only [go_sem, lo, l2]
theorem Z5h {D : Nat} (hD : 2 <= D) (v : Val) (ht : v.t.size <= big) : den pr D Wy [.agg v.c] = some [.q (Z1b v)] := by
 obtain ⟨D, rfl, hd⟩ := Zc hD
 obtain ⟨k, n, t⟩ := v
 rw [Zm3]
 simp only at ht
 simp only [Z9d, go_sem, Z8g hd, Zjs hd t ht, Z1b]
 cases h0 : decide (k = 0) <;> cases h1 : decide (k = 1) <;> cases h2 : decide (k = 2) <;> simp only [go_sem]
 . cases okL t.data.toList <;> simp only [go_sem]
 all_goals first | rfl | (rw [Bool.and_comm])
theorem Zd3 : ∀ l, W6 l l = false
 | [] => rfl
 | a :: l => by
   have h : decide (a < a) = false := by simp
   have h2 : W6 (a :: l) (a :: l) = (decide (a < a) || (a == a && W6 l l)) := rfl
   rw [h2, h, Zd3 l]; simp
theorem Z61 (a : Val) : Xh a a = false := by
 unfold Xh
 rw [Zd3]
 simp
theorem Zd0 (a b : Val) : (decide (a.k = b.k) && (decide (a.n = b.n) && decide (a.t = b.t))) = decide (a = b) := by
 obtain ⟨k, n, t⟩ := a
 obtain ⟨k', n', t'⟩ := b
 simp only [Val.mk.injEq]
 by_cases h1 : k = k' <;> by_cases h2 : n = n' <;> by_cases h3 : t = t' <;> simp [h1, h2, h3]
def Zet (e : Ent) : Bool := Z1b e.v && inB e.id 1 60
def Ym (a b : Ent) : Bool := bif !decide (a.v = b.v) then Xh a.v b.v else decide (a.id < b.id)
theorem Zs5 {D : Nat} (hD : 3 <= D) (e : Ent) (ht : e.v.t.size <= big) : den pr D Zyt [.agg e.c] = some [.q (Zet e)] := by
 obtain ⟨D, rfl, hd⟩ := Zc hD
 rw [Ycv]
 have h1 := Zff hd e.v ht
 simp only [Y52, go_sem, h1, Y27 (show 1 <= D by omega), Zet]
theorem Zd5 {D : Nat} (hD : 2 <= D) (a b : Ent) : den pr D Zup [.agg a.c, .agg b.c] = some [.q (Ym a b)] := by
 obtain ⟨D, rfl, hd⟩ := Zc hD
 rw [Ycx]
 have h1 := Zv8 hd a.v b.v
 simp only [Y6g, go_sem, h1, Ym, Zd0]
 by_cases h : a.v = b.v
 . rw [h, Z61]; simp
 . simp [h]
theorem Zzg {D : Nat} (hD : 2 <= D) (a b : Ent) : den pr D Z46 [.agg a.c, .agg b.c] = some [.q (Ym a b)] := by
 obtain ⟨D, rfl, hd⟩ := Zc hD
 rw [Zhv]
 have h1 := Zg1 hd a.v b.v
 simp only [Z7g, go_sem, h1, Ym, Zd0, Zi7]
def Zm7 (p : Option Ent) (e : Ent) : Bool := Zet e && (match p with | none => true | some a => Ym a e)
def Z5g : Option Ent -> List Ent -> Bool
 | _, [] => true
 | p, e :: es => Zm7 p e && Z5g (some e) es
theorem Zms : ∀ (es : List Ent) (i : Nat) (p : Option Ent), (∃ q, Zv (fun _ p e => if Zm7 p e then .inl (some e) else .inr ()) i p es = (if Z5g p es then .inl q else .inr () : Option Ent ⊕ Unit))
 | [], i, p => ⟨p, rfl⟩
 | e :: es, i, p => by
   unfold Zv
   obtain ⟨q, hq⟩ := Zms es (i + 1) (some e)
   refine ⟨q, ?_⟩
   have : Z5g p (e :: es) = (Zm7 p e && Z5g (some e) es) := rfl
   rw [this]
   cases Zm7 p e with
   | true => simp only [if_true, eZ]; exact hq
   | false => rfl
def Z3j (es : List Ent) : Bool := Z5g none es && decide ((es.length : Int) <= 16)
def Y39 (xs : List Ent) (i : Nat) (p : Option Ent) : Prop := (i = 0 /\ p = none) \/ ∃ j a, i = j + 1 /\ p = some a /\ xs[j]? = some a
theorem Zq {V J : Type} {f : V -> J} {l : List V} {i : Nat} {x : V} (h : l[i]? = some x) : (l.map f)[i]? = some (f x) := by rw [eN, h]; rfl
theorem Zfk {i : Nat} (h : i < 2 ^ 62) : IntKind.i64.wrap (((i + 1 : Nat) : Int) - 1) = (i : Int) := by rw [wrap_i64 (by omega) (by omega)]; omega
theorem Zqo {i : Nat} (h : i = 0) : ¬ (0 : Int) <= IntKind.i64.wrap ((i : Int) - 1) := by subst h; decide
structure Small (es : List Ent) : Prop where
 len : es.length <= big
 txt : ∀ e ∈ es, e.v.t.size <= big
theorem Zef {D : Nat} (hD : 3 <= D) (es : List Ent) (hs : Small es) :
 Vg (Zd (Zj (aH D) Z3i) [0, 5, 6, 7] rounds ⟨upd (upd (upd (upd (fun _ => .bad) 0 (.lit Z5 (es.map Ent.c))) 5 (.lit Z5 (es.map Ent.c))) 6 (.n es.length)) 7 (.n (0 : Nat)), fun _ => none, 0, 0⟩) (Option Ent) Unit (Zv (fun _ p e => if Zm7 p e then .inl (some e) else .inr ()) 0 none es)
  (fun _ o => ∃ U', o = .exit 0 U' /\ U'.s 0 = .lit Z5 (es.map Ent.c)) (fun _ o => ∃ U', o = .ret U' /\ U'.s 2 = .q false) := by
 have j0 := hs.len
 refine Zt es (fun i (_ : Option Ent) => ⟨upd (upd (upd (upd (fun _ => .bad) 0 (.lit Z5 (es.map Ent.c))) 5 (.lit Z5 (es.map Ent.c))) 6 (.n es.length)) 7 (.n i), fun _ => none, 0, 0⟩) _ (Y39 es) _ _ none (.inl ⟨rfl, rfl⟩) hs.len (fun i p e K hc hlt hi => ?_) (fun _ K _ => ?_)
 . have hr := Zq (f := Ent.c) hc
   have hw := Zk (n := i) (by unfold big at j0; omega)
   have hm := Zs5 hD e (hs.txt e (dY hc))
   rcases hi with ⟨h0, rfl⟩ | ⟨j, a, rfl, rfl, ha⟩
   . have hz : ¬ (0 : Int) < (i : Int) := by omega
     have j2 : ¬ (0 : Int) <= IntKind.i64.wrap ((i : Int) - 1) := Zqo h0
     have ho : Zm7 none e = Zet e := gY _
     simp only [Zd, Z3p, Vw, go_sem, hr, hlt, hw, hm, ho, hz, j2]
     cases Zet e with
     | false => simp only [go_sem]; exact ⟨_, rfl, _, rfl, rfl⟩
     | true => simp only [go_sem]; exact .inr ⟨i, e, rfl, rfl, hc⟩
   . have j3 := Zq (f := Ent.c) ha
     have hl := Zd5 (show 2 <= D by omega) a e
     have hw1 := Zfk (i := j) (by unfold big at j0; omega)
     have j1 : (0 : Int) < ((j + 1 : Nat) : Int) := by omega
     have ho : Zm7 (some a) e = (Zet e && Ym a e) := rfl
     simp only [Zd, Z3p, Vw, go_sem, hr, hlt, hw, hm, ho, j3, hl, hw1, j1]
     cases Zet e with
     | false => simp only [go_sem]; exact ⟨_, rfl, _, rfl, rfl⟩
     | true =>
       cases Ym a e with
       | false => simp only [go_sem]; exact ⟨_, rfl, _, rfl, rfl⟩
       | true => simp only [go_sem]; exact .inr ⟨j + 1, e, rfl, rfl, hc⟩
 . have hi : ¬ es.length < es.length := by omega
   simp only [Zd, Z3p, Vw, go_sem, hi]
   exact ⟨_, rfl, _, rfl, rfl⟩
theorem Zb3 {D : Nat} (hD : 4 <= D) (es : List Ent) (hs : Small es) : den pr D V7 [.lit Z5 (es.map Ent.c)] = some [.q (Z3j es)] := by
 obtain ⟨D, rfl, hd⟩ := Zc hD
 rw [Zft]
 obtain ⟨out, lo, lp⟩ := Zef hd es hs
 rw [show ((0 : Nat) : Int) = 0 from rfl] at lo
 obtain ⟨q, hq⟩ := Zms es 0 none
 rw [hq] at lp
 simp only [Z6h, go_sem, Z3j, dN]
 cases hc : Z5g none es with
 | true =>
   rw [hc] at lp
   obtain ⟨U', rfl, l2⟩ := lp
   simp only [go_sem, lo, l2, dN]
 | false =>
   rw [hc] at lp
   obtain ⟨U', rfl, l2⟩ := lp
   simp only [go_sem, lo, l2]
def cap : Int := 1048576
theorem Zb5 {V : Type} : ∀ (es : List V) (i : Nat), Zv (fun _ (_ : Unit) _ => (.inl () : Unit ⊕ Unit)) i () es = .inl ()
 | [], _ => rfl
 | e :: es, i => by unfold Zv; exact Zb5 es (i + 1)
theorem Z6u {V : Type} (f : V -> List A) (h : ∀ x, Zp4 (f x) = false) : ∀ l : List V, Vl (l.map f) = false
 | [] => rfl
 | x :: l => by
   have : Vl ((x :: l).map f) = (Zp4 (f x) || Vl (l.map f)) := rfl
   rw [this, h, Z6u f h l]
   rfl
theorem Z6o (es : List Ent) : Vl (es.map Ent.c) = false := Z6u _ (fun _ => rfl) es
theorem Zb {V J : Type} (f : V -> J) (l : List V) : (l.map f).take l.length = l.map f := dP (by simp)
def Zks (p : Option Ent) (e : Ent) : Bool := match p with
 | none => false
 | some a => !decide (e.v.k = 0) && decide (e.v = a.v)
def Zcl : Nat -> Option Ent -> Ent -> Option Ent ⊕ Unit := fun _ p e => if Zks p e then .inr () else .inl (some e)
def Z3b (es : List Ent) : Bool := (match Zv Zcl 0 none es with | .inl _ => true | .inr _ => false) && Z3j es
theorem Zc2 {D : Nat} (es : List Ent) (hs : Small es) :
 Vg (Zd (Zj (aH D) Zp9) [0, 5, 6, 7] rounds ⟨upd (upd (upd (upd (fun _ => .bad) 0 (.lit Z5 (es.map Ent.c))) 5 (.lit Z5 (es.map Ent.c))) 6 (.n es.length)) 7 (.n (0 : Nat)), fun _ => none, 0, 0⟩) (Option Ent) Unit (Zv Zcl 0 none es)
  (fun _ o => ∃ U', o = .exit 0 U' /\ U'.s 0 = .lit Z5 (es.map Ent.c)) (fun _ o => ∃ U', o = .ret U' /\ U'.s 2 = .q false) := by
 have j0 := hs.len
 refine Zt es (fun i (_ : Option Ent) => ⟨upd (upd (upd (upd (fun _ => .bad) 0 (.lit Z5 (es.map Ent.c))) 5 (.lit Z5 (es.map Ent.c))) 6 (.n es.length)) 7 (.n i), fun _ => none, 0, 0⟩) _ (Y39 es) _ _ none (.inl ⟨rfl, rfl⟩) hs.len (fun i p e K hc hlt hi => ?_) (fun _ K _ => ?_)
 . have hr := Zq (f := Ent.c) hc
   have hw := Zk (n := i) (by unfold big at j0; omega)
   rcases hi with ⟨h0, rfl⟩ | ⟨j, a, rfl, rfl, ha⟩
   . have hz : ¬ (0 : Int) < (i : Int) := by omega
     have j2 : ¬ (0 : Int) <= IntKind.i64.wrap ((i : Int) - 1) := Zqo h0
     simp only [Zd, Znq, Zea, go_sem, hr, hlt, hw, hz, j2, Zcl, Zks]
     exact .inr ⟨i, e, rfl, rfl, hc⟩
   . have j3 := Zq (f := Ent.c) ha
     have hw1 := Zfk (i := j) (by unfold big at j0; omega)
     have j1 : (0 : Int) < ((j + 1 : Nat) : Int) := by omega
     have ht : (!decide (e.v.k = 0) && decide (e.v = a.v)) = Zks (some a) e := rfl
     simp only [Zd, Znq, Zea, go_sem, hr, hlt, hw, j3, hw1, j1, Zcl, Zd0, ht]
     cases Zks (some a) e with
     | true => simp only [go_sem]; exact ⟨_, rfl, _, rfl, rfl⟩
     | false => simp only [go_sem]; exact .inr ⟨j + 1, e, rfl, rfl, hc⟩
 . have hi : ¬ es.length < es.length := by omega
   simp only [Zd, Znq, Zea, go_sem, hi]
   exact ⟨_, rfl, _, rfl, rfl⟩
theorem Zp2 {D : Nat} (hD : 5 <= D) (es : List Ent) (hs : Small es) : den pr D Y1s [.lit Z5 (es.map Ent.c)] = some [.q (Z3b es)] := by
 obtain ⟨D, rfl, hd⟩ := Zc hD
 rw [Ycl]
 obtain ⟨out, lo, lp⟩ := Zc2 (D := D) es hs
 rw [show ((0 : Nat) : Int) = 0 from rfl] at lo
 have h1 := Zb3 hd es hs
 simp only [Y51, go_sem, Z3b, dN]
 cases hc : Zv Zcl 0 none es with
 | inl q =>
   rw [hc] at lp
   obtain ⟨U', rfl, l2⟩ := lp
   simp only [go_sem, lo, l2, h1]
 | inr q =>
   rw [hc] at lp
   obtain ⟨U', rfl, l2⟩ := lp
   simp only [go_sem, lo, l2]
theorem Z8y {n b : Nat} (hb : b < n) (h : Hp) (x : Option Blk) : low n (upd h b x) = upd (low n h) b x := by
 funext i
 simp only [low, Z7]
 by_cases h1 : i = b
 . subst h1; simp [hb]
 . simp [h1]
theorem Y71 (n : Nat) (h : Hp) : low n (low n h) = low n h := by
 funext i
 simp only [low]
 split <;> simp_all
theorem Zgi {n b : Nat} (hb : b < n) (h : Hp) : low n h b = h b := by simp [low, hb]
theorem Wl {V : Type} (f : Nat -> V) (k : Nat) (x y : V) : upd (upd f k x) k y = upd f k y := by
 funext i
 simp only [Z7]
 split <;> rfl
abbrev Zbu (x : Int) : List A := [.n x]
theorem set_set {V : Type} (l : List V) (i : Nat) (a b : V) : (l.set i a).set i b = l.set i b := List.set_set ..
def Zgn (P : Val -> Bool) (es : List Ent) : List Int := (es.filter fun e => P e.v).map Ent.id
def Zkj (P : Val -> Bool) : Nat -> List Int -> Ent -> List Int ⊕ Unit := fun _ acc e => .inl (if P e.v then acc ++ [e.id] else acc)
theorem Zlt (P : Val -> Bool) : ∀ (es : List Ent) (i : Nat) (acc : List Int), Zv (Zkj P) i acc es = .inl (acc ++ Zgn P es)
 | [], i, acc => by simp [Zv, Zgn]
 | e :: es, i, acc => by
   unfold Zv Zkj
   simp only
   rw [show (fun _ acc e => Sum.inl (if P e.v then acc ++ [e.id] else acc)) = Zkj P from rfl, Zlt P es]
   unfold Zgn
   by_cases h : P e.v <;> simp [h]
structure PlCaps (cs : List A) : Prop where
 nm : Z78 cs = []
 rn : ∀ base ns, Zje base ns cs = cs
 ac : Wg cs = true
 cl : ∀ h, Z6t h cs = some cs
 np : ∀ h, Z0v h cs = []
 cv : ∀ h, Z0t h cs = some cs
 nv : ∀ h, Xm h cs = []
theorem Zs7 : PlCaps [] := ⟨rfl, fun _ _ => rfl, rfl, fun _ => rfl, fun _ => rfl, fun _ => rfl, fun _ => rfl⟩
theorem Zno {r : List A} {j : Nat} {cs : List A} (h : PlCaps cs) : PlCaps (.pl r j :: cs) where
 nm := by simp only [Z78, Yk, h.nm, dH]
 rn base ns := by simp only [Zje, Zk8, h.rn]
 ac := by simp only [Wg, Zmy, h.ac, gY]
 cl hp := by simp only [Z6t, Z9e, bnd, h.cl]
 np hp := by simp only [Z0v, Z4e, h.np, dH]
 cv hp := by simp only [Z0t, Zbe, bnd, h.cv]
 nv hp := by simp only [Xm, Zbr, Xk, h.nv, dH]
theorem Zyl {D : Nat} (P : Val -> Bool) (f : Nat) (cs : List A) (hc : PlCaps cs) (hf : ∀ v : Val, den pr D f (.agg v.c :: cs) = some [.q (P v)]) (es : List Ent) (hl : es.length <= big) :
 Vg (Zd (Zj (aH D) Z6l) [1, 5, 11, 12, 13] rounds ⟨upd (upd (upd (upd (upd (fun _ => .bad) 1 (.fn f cs)) 5 (.ref Wd 0 0 ([] : List Int).length ([] : List Int).length false)) 11 (.lit Z5 (es.map Ent.c))) 12 (.n es.length)) 13 (.n (0 : Nat)), upd (fun _ => none) 0 (some ⟨Wd, ([] : List Int).map Zbu, true, false⟩), 1, 0⟩) (List Int) Unit (Zv (Zkj P) 0 [] es)
  (fun acc o => ∃ U', o = .exit 0 U' /\ U'.s 5 = .ref Wd 0 0 acc.length acc.length false /\ U'.h = upd (fun _ => none) 0 (some ⟨Wd, acc.map Zbu, true, false⟩) /\ U'.n = 1 /\ U'.base = 0) (fun _ o => False) := by
 refine Zt es (fun i (acc : List Int) => ⟨upd (upd (upd (upd (upd (fun _ => .bad) 1 (.fn f cs)) 5 (.ref Wd 0 0 acc.length acc.length false)) 11 (.lit Z5 (es.map Ent.c))) 12 (.n es.length)) 13 (.n i), upd (fun _ => none) 0 (some ⟨Wd, acc.map Zbu, true, false⟩), 1, 0⟩) _ (fun i acc => acc.length <= i) _ _ [] (dO _) hl (fun i acc e K he hlt hi => ?_) (fun acc K _ => ?_)
 . have hr := Zq (f := Ent.c) he
   have hw := Zk (n := i) (by unfold big at hl; omega)
   have hp := hf e.v
   have hb : acc.length + 1 <= big := by omega
   have ht : (acc.map Zbu).take acc.length = acc.map Zbu := Zb _ _
   have j0 : acc.length <= (acc.map Zbu).length := by simp
   simp only [Zd, Za9, Z33, go_sem, hr, hlt, hw, hc.nm, hc.rn, hc.ac, hc.cv, hc.nv, hp, Zkj]
   cases P e.v with
   | true =>
     simp only [go_sem, hw, hb, ht, j0, hc.nm, hc.rn, eE, eO]
     first | omega | exact ⟨rfl, by omega⟩
   | false =>
     simp only [go_sem]
     omega
 . have hi : ¬ es.length < es.length := by omega
   simp only [Zd, Za9, Z33, go_sem, hi]
   exact ⟨_, rfl, _, rfl, rfl, rfl, rfl, rfl⟩
def Zb4 (P : Val -> Bool) (es : List Ent) : List Int := if Z3j es then Zgn P es else []
theorem Y4c {D : Nat} (hD : 5 <= D) (P : Val -> Bool) (f : Nat) (cs : List A) (hc : PlCaps cs) (hf : ∀ v : Val, den pr (D - 1) f (.agg v.c :: cs) = some [.q (P v)]) (es : List Ent) (hs : Small es) :
 den pr D Z5x [.lit Z5 (es.map Ent.c), .fn f cs] = some [.olit Wd ((Zb4 P es).map Zbu)] := by
 obtain ⟨D, rfl, hd⟩ := Zc hD
 rw [Zmj]
 have hf : ∀ v : Val, den pr D f (.agg v.c :: cs) = some [.q (P v)] := hf
 have h1 := Zb3 hd es hs
 unfold Zb4
 cases h : Z3j es with
 | false => 
   rw [h] at h1
   simp only [Z5y, go_sem, h1]
 | true =>
   rw [h] at h1
   obtain ⟨out, lo, lp⟩ := Zyl P f cs hc hf es hs.len
   rw [Zlt] at lp
   obtain ⟨U', rfl, l2, l3, l4, l5⟩ := lp
   rw [dH] at l2 l3
   rw [show ((0 : Nat) : Int) = 0 from rfl] at lo
   rw [show ([] : List Int).length = 0 from rfl, dJ] at lo
   obtain ⟨D, rfl⟩ : ∃ d, D = d + 1 := ⟨D - 1, by omega⟩
   simp only [Z5y, go_sem, h1, dN, hc.nm, hc.rn, lo, l2, l3, l4, l5, Ya5, Y1z, dO, dG, fL, fI]
theorem Zi6 {D : Nat} (hD : 1 <= D) (v w : Val) : den pr D Ztj [.agg w.c, .pl v.c 0] = some [.q (decide (w = v))] := by
 obtain ⟨D, rfl, hd⟩ := Zc hD
 rw [Ybv]
 simp only [Y4h, go_sem, Zd0]
theorem Znt {D : Nat} (hD : 6 <= D) (es : List Ent) (v : Val) (hs : Small es) : den pr D Zzh [.lit Z5 (es.map Ent.c), .agg v.c] = some [.olit Wd ((Zb4 (fun w => decide (w = v)) es).map Zbu)] := by
 obtain ⟨D, rfl, hd⟩ := Zc hD
 rw [Yc4]
 have h1 := Y4c hd (fun w => decide (w = v)) Ztj [.pl v.c 0] (Zno Zs7) (fun w => Zi6 (by omega) v w) es hs
 simp only [Y64, go_sem, h1]
theorem Zsa (es : List Int) : Vl (es.map Zbu) = false := Z6u _ (fun _ => rfl) es
theorem Zv6 {D : Nat} (hD : 2 <= D) (rows : List (List A)) (hl : rows.length <= big) : den pr D Zyp [.lit Z5 rows] = some [.olit Z5 rows] := by
 obtain ⟨D, rfl, hd⟩ := Zc hD
 obtain ⟨D, rfl, hd⟩ := Zc hd
 rw [Ybh]
 have h1 : den pr (D + 1) Zrl [.lit Z5 rows] = some [.olit Z5 rows] := by
  rw [Ybi]
  simp only [Z8h, hl, go_sem]
 have h2 : Vl rows = true \/ Vl rows = false := by cases Vl rows <;> simp
 rcases h2 with h2 | h2 <;> simp only [Y5t, go_sem, h1, h2, Ycm, Y3y, dO, dG, fL, fI, frz]
def Z3z {V : Type} (i : Nat) (l : List V) : List V := l.take i ++ l.drop (i + 1)
theorem Z1o {V : Type} {i : Nat} {l : List V} (h : i < l.length) : (Z3z i l).length = l.length - 1 := by
 unfold Z3z
 simp
 omega
theorem Zr5 {V J : Type} (f : V -> J) (i : Nat) (l : List V) : Z3z i (l.map f) = (Z3z i l).map f := by simp [Z3z]
structure ColV where
 nm : ByteArray
 k : Int
 need : Bool
 once : Bool
 df : Val
 deriving DecidableEq
abbrev ColV.c (c : ColV) : List A := [.s c.nm, .n c.k, .q c.need, .q c.once, .n c.df.k, .n c.df.n, .s c.df.t]
structure CondV where
 nm : ByteArray
 how : Int
 v : Val
 deriving DecidableEq
abbrev CondV.c (c : CondV) : List A := [.s c.nm, .n c.how, .n c.v.k, .n c.v.n, .s c.v.t]
abbrev Yaj : List A := [.s ⟨#[]⟩, .n 0, .q false, .q false, .n 0, .n 0, .s ⟨#[]⟩]
def Y2g (c : UInt8) : Bool := decide ((c.toNat : Int) < 97) || decide (122 < (c.toNat : Int))
def nmL (l : List UInt8) : Bool := l.all fun c => !Y2g c
theorem Zp1 : ∀ (l : List UInt8) (i : Nat), (Zv (fun _ (_ : Unit) c => if Y2g c then .inr () else .inl ()) i () l : Unit ⊕ Unit) = if nmL l then .inl () else .inr ()
 | [], i => rfl
 | c :: l, i => by
   unfold Zv
   have : nmL (c :: l) = (!Y2g c && nmL l) := rfl
   rw [this]
   cases Y2g c with
   | true => rfl
   | false => simp only [eH, if_false, fR, eZ]; exact Zp1 l (i + 1)
def Y23 (t : ByteArray) : Bool := bif nmL t.data.toList then inB t.size 1 3 else false
theorem Zxd (E : Env) (t : ByteArray) (ht : t.size <= big) :
 Vg (Zd (Zj E Z53) [0, 5, 6] rounds ⟨upd (upd (upd (fun _ => .bad) 0 (.s t)) 5 (.n t.size)) 6 (.n (0 : Nat)), fun _ => none, 0, 0⟩) Unit Unit (if nmL t.data.toList then .inl () else .inr ())
  (fun _ o => ∃ U', o = .exit 0 U' /\ U'.s 0 = .s t) (fun _ o => ∃ U', o = .ret U' /\ U'.s 2 = .q false) := by
 rw [<- Zp1 _ 0]
 have j1 : t.size = t.data.toList.length := Z8z t
 refine Zt t.data.toList (fun i (_ : Unit) => ⟨upd (upd (upd (fun _ => .bad) 0 (.s t)) 5 (.n t.size)) 6 (.n i), fun _ => none, 0, 0⟩) _ (fun _ _ => True) _ _ () trivial (by rw [<- j1]; exact ht) (fun i _ c K hc hlt _ => ?_) (fun _ K _ => ?_)
 . have j0 : i < t.size := by omega
   have hw := Zk (n := i) (by unfold big at ht; omega)
   have hb : (decide ((c.toNat : Int) < 97) || decide (122 < (c.toNat : Int))) = Y2g c := rfl
   simp only [Zd, Z8r, Z1z, go_sem, hc, j0, hw, hb]
   cases Y2g c with
   | true => exact ⟨_, rfl, _, rfl, rfl⟩
   | false => exact rfl
 . have hi : ¬ t.data.toList.length < t.size := by omega
   simp only [Zd, Z8r, Z1z, go_sem, hi]
   exact ⟨_, rfl, _, rfl, rfl⟩
theorem Zzm {D : Nat} (hD : 2 <= D) (t : ByteArray) (ht : t.size <= big) : den pr D Z4p [.s t] = some [.q (Y23 t)] := by
 obtain ⟨D, rfl, hd⟩ := Zc hD
 rw [Zj7]
 obtain ⟨out, lo, lp⟩ := Zxd (aH D) t ht
 rw [show ((0 : Nat) : Int) = 0 from rfl] at lo
 have h1 := Y27 hd
 unfold Y23
 cases hl : nmL t.data.toList with
 | true =>
   rw [hl] at lp
   obtain ⟨U', rfl, l2⟩ := lp
   simp only [Z44, go_sem, lo, l2, h1]
 | false =>
   rw [hl] at lp
   obtain ⟨U', rfl, l2⟩ := lp
   simp only [Z44, go_sem, lo, l2]
theorem Zuc (E : Env) (t : ByteArray) (ht : t.size <= big) :
 Vg (Zd (Zj E Z54) [0, 3] rounds ⟨upd (upd (fun _ => .bad) 0 (.s t)) 3 (.n (0 : Nat)), fun _ => none, 0, 0⟩) Unit Unit (if nmL t.data.toList then .inl () else .inr ())
  (fun _ o => ∃ U', o = .exit 0 U' /\ U'.s 0 = .s t) (fun _ o => ∃ U', o = .ret U' /\ U'.s 2 = .q false) := by
 rw [<- Zp1 _ 0]
 have j1 : t.size = t.data.toList.length := Z8z t
 refine Zt t.data.toList (fun i (_ : Unit) => ⟨upd (upd (fun _ => .bad) 0 (.s t)) 3 (.n i), fun _ => none, 0, 0⟩) _ (fun _ _ => True) _ _ () trivial (by rw [<- j1]; exact ht) (fun i _ c K hc hlt _ => ?_) (fun _ K _ => ?_)
 . have j0 : i < t.size := by omega
   have hw := Zk (n := i) (by unfold big at ht; omega)
   have hb : (decide ((c.toNat : Int) < 97) || decide (122 < (c.toNat : Int))) = Y2g c := rfl
   simp only [Zd, Z8n, Z1j, go_sem, hc, j0, hw, hb]
   cases Y2g c with
   | true => exact ⟨_, rfl, _, rfl, rfl⟩
   | false => exact rfl
 . have hi : ¬ t.data.toList.length < t.size := by omega
   simp only [Zd, Z8n, Z1j, go_sem, hi]
   exact ⟨_, rfl, _, rfl, rfl⟩
theorem Y0b {D : Nat} (hD : 1 <= D) (t : ByteArray) (ht : t.size <= big) : den pr D Z4j [.s t] = some [.q (Y23 t)] := by
 obtain ⟨D, rfl, hd⟩ := Zc hD
 rw [Zjt]
 obtain ⟨out, lo, lp⟩ := Zuc (aH D) t ht
 rw [show ((0 : Nat) : Int) = 0 from rfl] at lo
 unfold Y23
 cases hl : nmL t.data.toList with
 | true =>
   rw [hl] at lp
   obtain ⟨U', rfl, l2⟩ := lp
   simp only [Z4h, go_sem, lo, l2, inB]
 | false =>
   rw [hl] at lp
   obtain ⟨U', rfl, l2⟩ := lp
   simp only [Z4h, go_sem, lo, l2]
theorem pf (P : Prop) : P = True \/ P = False := by
 by_cases h : P
 . exact .inl (eq_true h)
 . exact .inr (eq_false h)
def Zix (v : Val) (k : Int) : Bool := decide (v.k = 0) || decide (v.k = k)
def Za0 (c : ColV) : Bool := Y23 c.nm && inB c.k 1 2 && Z1b c.df && Zix c.df c.k && (!c.once || decide (c.df.k = 0))
theorem Y2w {D : Nat} (hD : 1 <= D) (v : Val) (k : Int) : den pr D Zts [.agg v.c, .n k] = some [.q (Zix v k)] := by
 obtain ⟨D, rfl, hd⟩ := Zc hD
 rw [Ybd]
 simp only [Y68, go_sem, Zix]
theorem Y40 {D : Nat} (hD : 3 <= D) (c : ColV) (h1 : c.nm.size <= big) (h2 : c.df.t.size <= big) : den pr D Z62 [.agg c.c] = some [.q (Za0 c)] := by
 obtain ⟨D, rfl, hd⟩ := Zc hD
 rw [Zmk]
 have e1 := Zzm (show 2 <= D by omega) c.nm h1
 have e2 := Y27 (show 1 <= D by omega) c.k 1 2
 have e3 := Zff (show 2 <= D by omega) c.df h2
 have e4 := Y2w (show 1 <= D by omega) c.df c.k
 unfold Za0
 generalize Y23 c.nm = p1 at *
 generalize inB c.k 1 2 = p2 at *
 generalize Z1b c.df = p3 at *
 generalize Zix c.df c.k = p4 at *
 cases p1 <;> cases p2 <;> cases p3 <;> cases p4 <;> simp only [Z94, go_sem, e1, e2, e3, e4]
theorem Y53 (k : Int) : (decide (k = 1) || decide (k = 2)) = inB k 1 2 := by
 unfold inB
 by_cases h1 : k = 1
 . simp [h1]
 . by_cases h2 : k = 2
   . simp [h2]
   . simp only [h1, h2, decide_false, Bool.or_self]
     symm
     rw [Bool.and_eq_false_iff, decide_eq_false_iff_not, decide_eq_false_iff_not]
     omega
theorem Zn7 {D : Nat} (hD : 3 <= D) (c : ColV) (h1 : c.nm.size <= big) (h2 : c.df.t.size <= big) : den pr D Z5j [.agg c.c] = some [.q (Za0 c)] := by
 obtain ⟨D, rfl, hd⟩ := Zc hD
 rw [Zm5]
 have e1 := Y0b (show 1 <= D by omega) c.nm h1
 have e3 := Z5h (show 2 <= D by omega) c.df h2
 have e4 := Y53 c.k
 have e5 : (decide (c.df.k = 0) || decide (c.df.k = c.k)) = Zix c.df c.k := rfl
 unfold Za0
 rw [<- e4, <- e5]
 generalize Y23 c.nm = p1 at *
 generalize Z1b c.df = p3 at *
 cases p1 <;> cases p3 <;> simp only [Z96, go_sem, e1, e3]
 rcases pf (c.k = 1) with q1 | q1 <;> rcases pf (c.k = 2) with q2 | q2 <;> rcases pf (c.df.k = 0) with q3 | q3 <;> rcases pf (c.df.k = c.k) with q4 | q4 <;> simp only [q1, q2, q3, q4, go_sem]
structure SmallC (cs : List ColV) : Prop where
 len : cs.length <= big
 txt : ∀ c ∈ cs, c.nm.size <= big /\ c.df.t.size <= big
def nmG (nm : ByteArray) : Nat -> Unit -> ColV -> Unit ⊕ Nat := fun i _ x => bif decide (x.nm = nm) then .inr i else .inl ()
def Z6s (nm : ByteArray) (cs : List ColV) : Option Nat := match Zv (nmG nm) 0 () cs with
 | .inl _ => none
 | .inr i => some i
def nmI (nm : ByteArray) (cs : List ColV) : Int := match Z6s nm cs with
 | none => -1
 | some i => i
theorem Y83 (nm : ByteArray) : ∀ (cs : List ColV) (i k : Nat), Zv (nmG nm) i () cs = .inr k -> i <= k /\ k < i + cs.length
 | [], i, k, h => nomatch h
 | x :: cs, i, k, h => by
   unfold Zv nmG at h
   by_cases hx : x.nm = nm
   . simp [hx] at h
     subst h
     simp
   . simp only [hx, decide_false, cond_false] at h
     have := Y83 nm cs (i + 1) k h
     simp only [eF]
     omega
theorem Z0p {nm : ByteArray} {cs : List ColV} {k : Nat} (h : Z6s nm cs = some k) : k < cs.length := by
 unfold Z6s at h
 cases hr : Zv (nmG nm) 0 () cs with
 | inl _ => rw [hr] at h; cases h
 | inr i =>
   rw [hr] at h
   cases h
   have := Y83 nm cs 0 k hr
   omega
theorem Zv1 {D : Nat} (hD : 1 <= D) (c : ColV) (nm : ByteArray) : den pr D V0 [.agg c.c, .pl [.s nm] 0] = some [.q (decide (c.nm = nm))] := by
 obtain ⟨D, rfl, hd⟩ := Zc hD
 rw [Zfo]
 simp only [Z63, go_sem]
theorem Zmi {D : Nat} (hD : 1 <= D) (nm : ByteArray) (cs : List ColV) (hl : cs.length <= big) :
 Vg (Zd (Zj (aH D) Zo3) [0, 1, 7, 8] rounds ⟨upd (upd (upd (upd (fun _ => .bad) 0 (.lit Z0 (cs.map ColV.c))) 1 (.fn V0 [.pl [.s nm] 0])) 7 (.n cs.length)) 8 (.n (0 : Nat)), fun _ => none, 0, 0⟩) Unit Nat (Zv (nmG nm) 0 () cs)
  (fun _ o => ∃ U', o = .exit 0 U') (fun i o => ∃ U', o = .ret U' /\ U'.s 4 = .n i) := by
 refine Zt cs (fun i (_ : Unit) => ⟨upd (upd (upd (upd (fun _ => .bad) 0 (.lit Z0 (cs.map ColV.c))) 1 (.fn V0 [.pl [.s nm] 0])) 7 (.n cs.length)) 8 (.n i), fun _ => none, 0, 0⟩) _ (fun _ _ => True) _ _ () trivial hl (fun i _ x K hc hlt hi => ?_) (fun _ K _ => ?_)
 . have hr := Zq (f := ColV.c) hc
   have hw := Zk (n := i) (by unfold big at hl; omega)
   have hp := Zv1 hD x nm
   simp only [Zd, Zux, Zi9, go_sem, hr, hlt, hw, hp, nmG]
   generalize decide (x.nm = nm) = q
   cases q with
   | true => simp only [go_sem]; exact ⟨_, rfl, _, rfl, rfl⟩
   | false => simp only [go_sem]
 . have hi : ¬ cs.length < cs.length := by omega
   simp only [Zd, Zux, Zi9, go_sem, hi]
   exact ⟨_, rfl, _, rfl⟩
theorem Z68 {D : Nat} (hD : 3 <= D) (nm : ByteArray) (cs : List ColV) (hl : cs.length <= big) : den pr D Xu [.lit Z0 (cs.map ColV.c), .s nm] = some [.n (nmI nm cs)] := by
 obtain ⟨D, rfl, hd⟩ := Zc hD
 obtain ⟨D, rfl, hd⟩ := Zc hd
 have h1 : den pr (D + 1) Y0f [.lit Z0 (cs.map ColV.c), .fn V0 [.pl [.s nm] 0]] = some [.n (nmI nm cs)] := by
  rw [Yce]
  obtain ⟨out, lo, lp⟩ := Zmi (show 1 <= D by omega) nm cs hl
  rw [show ((0 : Nat) : Int) = 0 from rfl] at lo
  unfold nmI Z6s
  cases hr : Zv (nmG nm) 0 () cs with
  | inl _ =>
    rw [hr] at lp
    obtain ⟨U', rfl⟩ := lp
    simp only [Y13, go_sem, dN, lo]
  | inr i =>
    rw [hr] at lp
    obtain ⟨U', rfl, l2⟩ := lp
    simp only [Y13, go_sem, dN, lo, l2]
 rw [Zkh]
 simp only [Z8b, go_sem, h1]
theorem Y6p {E : Env} (nm : ByteArray) (cs : List ColV) (hl : cs.length <= big) :
 Vg (Zd (Zj E Z7d) [0, 1, 5] rounds ⟨upd (upd (upd (fun _ => .bad) 0 (.lit Z0 (cs.map ColV.c))) 1 (.s nm)) 5 (.n (0 : Nat)), fun _ => none, 0, 0⟩) Unit Nat (Zv (nmG nm) 0 () cs)
  (fun _ o => ∃ U', o = .exit 0 U') (fun i o => ∃ U', o = .ret U' /\ U'.s 4 = .n i) := by
 refine Zt cs (fun i (_ : Unit) => ⟨upd (upd (upd (fun _ => .bad) 0 (.lit Z0 (cs.map ColV.c))) 1 (.s nm)) 5 (.n i), fun _ => none, 0, 0⟩) _ (fun _ _ => True) _ _ () trivial hl (fun i _ x K hc hlt hi => ?_) (fun _ K _ => ?_)
 . have hr := Zq (f := ColV.c) hc
   have hw := Zk (n := i) (by unfold big at hl; omega)
   simp only [Zd, Zbl, Z4m, go_sem, dN, hr, hlt, hw, nmG]
   rcases pf (x.nm = nm) with q | q
   . simp only [go_sem, q]; exact ⟨_, rfl, _, rfl, rfl⟩
   . simp only [go_sem, q]
 . have hi : ¬ cs.length < cs.length := by omega
   simp only [Zd, Zbl, Z4m, go_sem, dN, hi]
   exact ⟨_, rfl, _, rfl⟩
theorem Ze2 {D : Nat} (hD : 1 <= D) (nm : ByteArray) (cs : List ColV) (hl : cs.length <= big) : den pr D X9 [.lit Z0 (cs.map ColV.c), .s nm] = some [.n (nmI nm cs)] := by
 obtain ⟨D, rfl, hd⟩ := Zc hD
 rw [Zou]
 obtain ⟨out, lo, lp⟩ := Y6p (E := (aH D)) nm cs hl
 rw [show ((0 : Nat) : Int) = 0 from rfl] at lo
 unfold nmI Z6s
 cases hr : Zv (nmG nm) 0 () cs with
 | inl _ =>
   rw [hr] at lp
   obtain ⟨U', rfl⟩ := lp
   simp only [Z7i, go_sem, lo]
 | inr i =>
   rw [hr] at lp
   obtain ⟨U', rfl, l2⟩ := lp
   simp only [Z7i, go_sem, lo, l2]
def shG (cs : List ColV) : Nat -> Unit -> ColV -> Unit ⊕ Unit := fun i _ c => bif Za0 c && decide (nmI c.nm cs = i) then .inl () else .inr ()
def Zl (cs : List ColV) : Bool := (match Zv (shG cs) 0 () cs with | .inl _ => true | .inr _ => false) && inB cs.length 1 5
theorem Zs0 {D : Nat} (hD : 3 <= D) (cs : List ColV) (hs : SmallC cs) :
 Vg (Zd (Zj (aH D) Z3q) [0, 5, 6, 7] rounds ⟨upd (upd (upd (upd (fun _ => .bad) 0 (.lit Z0 (cs.map ColV.c))) 5 (.lit Z0 (cs.map ColV.c))) 6 (.n cs.length)) 7 (.n (0 : Nat)), fun _ => none, 0, 0⟩) Unit Unit (Zv (shG cs) 0 () cs)
  (fun _ o => ∃ U', o = .exit 0 U' /\ U'.s 0 = .lit Z0 (cs.map ColV.c)) (fun _ o => ∃ U', o = .ret U' /\ U'.s 2 = .q false) := by
 have j0 := hs.len
 refine Zt cs (fun i (_ : Unit) => ⟨upd (upd (upd (upd (fun _ => .bad) 0 (.lit Z0 (cs.map ColV.c))) 5 (.lit Z0 (cs.map ColV.c))) 6 (.n cs.length)) 7 (.n i), fun _ => none, 0, 0⟩) _ (fun _ _ => True) _ _ () trivial hs.len (fun i _ e K hc hlt hi => ?_) (fun _ K _ => ?_)
 . have hr := Zq (f := ColV.c) hc
   have hw := Zk (n := i) (by unfold big at j0; omega)
   have ht := hs.txt e (dY hc)
   have h1 := Y40 hD e ht.1 ht.2
   have h2 := Z68 hD e.nm cs hs.len
   simp only [Zd, Z87, Z12, go_sem, hr, hlt, hw, h1, h2, shG]
   generalize Za0 e = q1
   rcases pf (nmI e.nm cs = (i : Int)) with q2 | q2 <;> cases q1 <;> simp only [go_sem, q2] <;> exact ⟨_, rfl, _, rfl, rfl⟩
 . have hi : ¬ cs.length < cs.length := by omega
   simp only [Zd, Z87, Z12, go_sem, hi]
   exact ⟨_, rfl, _, rfl, rfl⟩
theorem Z8f {D : Nat} (hD : 4 <= D) (cs : List ColV) (hs : SmallC cs) : den pr D W7 [.lit Z0 (cs.map ColV.c)] = some [.q (Zl cs)] := by
 obtain ⟨D, rfl, hd⟩ := Zc hD
 rw [Zfz]
 obtain ⟨out, lo, lp⟩ := Zs0 hd cs hs
 rw [show ((0 : Nat) : Int) = 0 from rfl] at lo
 have h1 := Y27 (show 1 <= D by omega) cs.length 1 5
 unfold Zl
 cases hr : Zv (shG cs) 0 () cs with
 | inl _ =>
   rw [hr] at lp
   obtain ⟨U', rfl, l2⟩ := lp
   simp only [Z2n, go_sem, dN, lo, l2, h1]
 | inr _ =>
   rw [hr] at lp
   obtain ⟨U', rfl, l2⟩ := lp
   simp only [Z2n, go_sem, dN, lo, l2]
theorem Zdy {D : Nat} (hD : 3 <= D) (cs : List ColV) (hs : SmallC cs) :
 Vg (Zd (Zj (aH D) Z3x) [0, 3] rounds ⟨upd (upd (fun _ => .bad) 0 (.lit Z0 (cs.map ColV.c))) 3 (.n (0 : Nat)), fun _ => none, 0, 0⟩) Unit Unit (Zv (shG cs) 0 () cs)
  (fun _ o => ∃ U', o = .exit 0 U' /\ U'.s 0 = .lit Z0 (cs.map ColV.c)) (fun _ o => ∃ U', o = .ret U' /\ U'.s 2 = .q false) := by
 have j0 := hs.len
 refine Zt cs (fun i (_ : Unit) => ⟨upd (upd (fun _ => .bad) 0 (.lit Z0 (cs.map ColV.c))) 3 (.n i), fun _ => none, 0, 0⟩) _ (fun _ _ => True) _ _ () trivial hs.len (fun i _ e K hc hlt hi => ?_) (fun _ K _ => ?_)
 . have hr := Zq (f := ColV.c) hc
   have hw := Zk (n := i) (by unfold big at j0; omega)
   have ht := hs.txt e (dY hc)
   have h1 := Zn7 hD e ht.1 ht.2
   have h2 := Ze2 (show 1 <= D by omega) e.nm cs hs.len
   simp only [Zd, Z85, Z0z, go_sem, dN, hr, hlt, hw, h1, h2, shG]
   generalize Za0 e = q1
   rcases pf (nmI e.nm cs = (i : Int)) with q2 | q2 <;> cases q1 <;> simp only [go_sem, q2] <;> exact ⟨_, rfl, _, rfl, rfl⟩
 . have hi : ¬ cs.length < cs.length := by omega
   simp only [Zd, Z85, Z0z, go_sem, dN, hi]
   exact ⟨_, rfl, _, rfl, rfl⟩
theorem Z0w {D : Nat} (hD : 4 <= D) (cs : List ColV) (hs : SmallC cs) : den pr D W8 [.lit Z0 (cs.map ColV.c)] = some [.q (Zl cs)] := by
 obtain ⟨D, rfl, hd⟩ := Zc hD
 rw [Zfq]
 obtain ⟨out, lo, lp⟩ := Zdy hd cs hs
 rw [show ((0 : Nat) : Int) = 0 from rfl] at lo
 unfold Zl inB
 cases hr : Zv (shG cs) 0 () cs with
 | inl _ =>
   rw [hr] at lp
   obtain ⟨U', rfl, l2⟩ := lp
   simp only [Z35, go_sem, dN, lo, l2]
 | inr _ =>
   rw [hr] at lp
   obtain ⟨U', rfl, l2⟩ := lp
   simp only [Z35, go_sem, lo, l2]
theorem Z8l (w : Bool) (a : A) : Vx w (.ifg false a) = some false := by
 unfold Vx
 split <;> simp_all
theorem Za (es : List ColV) : Vl (es.map ColV.c) = false := Z6u _ (fun _ => rfl) es
abbrev u8C (n : Int) : List A := [.v (.int .u8 n)]
structure Code (ns : List Int) : Prop where
 len : ns.length <= 2000
 b : ∀ n ∈ ns, 0 <= n /\ n <= 255
abbrev rdB (ns : List Int) (p : Nat) : Option Blk := some ⟨Za2, [[.lit Vf (ns.map u8C), .n p]], true, true⟩
def Yat (a b : Int) : Int := IntKind.i64.wrap (BitVec.ofInt 64 a ^^^ BitVec.ofInt 64 b).toNat
theorem Znz {a b : Nat} (ha : a < 2 ^ 62) (hb : b < 2 ^ 62) : 0 <= Yat a b := by
 unfold Yat
 have h1 : (BitVec.ofInt 64 (a : Int) ^^^ BitVec.ofInt 64 (b : Int)).toNat = a ^^^ b := by
  rw [BitVec.toNat_xor, BitVec.toNat_ofInt, BitVec.toNat_ofInt]
  have e : ((2 ^ 64 : Nat) : Int) = 2 ^ 64 := by norm_cast
  rw [e]
  have e1 : ((a : Int) % 2 ^ 64).toNat = a := by omega
  have e2 : ((b : Int) % 2 ^ 64).toNat = b := by omega
  rw [e1, e2]
 rw [h1]
 have h2 := Nat.xor_lt_two_pow ha hb
 rw [wrap_i64 (by omega) (by omega)]
 omega
theorem Zpr (a b : Nat) : ((a : Int)).tmod (b : Int) = ((a % b : Nat) : Int) := by
 rw [Int.tmod_eq_emod_of_nonneg (by omega)]; rfl
theorem Zpv (a b : Nat) : ((a : Int)).tdiv (b : Int) = ((a / b : Nat) : Int) := by
 rw [Int.tdiv_eq_ediv_of_nonneg (by omega)]; rfl
theorem Zxr {x n : Int} (hx : 0 <= x) (hn : 1 <= n) : 0 <= x.tmod n /\ x.tmod n < n := by
 rw [Int.tmod_eq_emod_of_nonneg hx]
 exact ⟨Int.emod_nonneg _ (by omega), Int.emod_lt_of_pos _ (by omega)⟩
def Y9q (n x : Int) : Prop := (1 <= n -> 0 <= x /\ x < n) /\ (n < 1 -> x = 0)
set_option maxHeartbeats 2000000 in
theorem Wv (ns : List Int) (hc : Code ns) (n : Int) (p : Nat) (hp : p <= 2 ^ 40) :
 ∃ x, Y9q n x /\ ∀ (D : Nat) (hD : 1 <= D) (h : Hp) (m b : Nat) (hb : b < m) (hh : h b = rdB ns p), dcl pr D Z19 [.ptr b 0 0, .n n] h m = some ([.n x], upd h b (rdB ns (p + 1)), m) := by
 have hw : IntKind.i64.wrap ((p : Int) + 1) = ((p + 1 : Nat) : Int) := Zk (by omega)
 have hw1 : IntKind.i64.wrap (((p + 1 : Nat) : Int) - 1) = (p : Int) := Zfk (by omega)
 by_cases h0 : n < 1
 . have hn := eq_true h0
   refine ⟨0, ⟨fun h1 => by omega, fun _ => rfl⟩, fun D hD h m b hb hh => ?_⟩
   . obtain ⟨D, rfl, hd⟩ := Zc hD
     rw [Y1f]
     simp only [Zs3, go_sem, hh, hb, hw, hn]
 . have j1 : ¬ n < 1 := h0
   have hn := eq_false h0
   have j2 : (n = 0) = False := eq_false (by omega)
   cases ns with
   | nil =>
     refine ⟨0, ⟨fun _ => ⟨by omega, by omega⟩, fun _ => rfl⟩, fun D hD h m b hb hh => ?_⟩
     obtain ⟨D, rfl, hd⟩ := Zc hD
     rw [Y1f]
     have hz : ((0 : Nat) : Int) = 0 := rfl
     simp only [Zs3, go_sem, hh, hb, hw, hn, hz]
     rfl
   | cons n0 ns0 =>
     generalize hns : n0 :: ns0 = ns at *
     have j0 : 0 < ns.length := by rw [<- hns]; simp
     have j5 : (((ns.length : Nat) : Int) = 0) = False := eq_false (by omega)
     by_cases hlt : p < ns.length
     . have hg : ns[p]? = some ns[p] := dS hlt
       have hr := Zq (f := u8C) hg
       have ja := hc.b ns[p] (eV hlt)
       have j6 : IntKind.i64.wrap ns[p] = ns[p] := wrap_i64 (by omega) (by omega)
       refine ⟨ns[p].tmod n, ⟨fun h1 => Zxr ja.1 h1, fun h1 => absurd h1 j1⟩, fun D hD h m b hb hh => ?_⟩
       obtain ⟨D, rfl, hd⟩ := Zc hD
       rw [Y1f]
       generalize ns[p] = y at *
       simp only [Zs3, go_sem, hh, hb, hw, hw1, hn, j2, j5, hlt, hr, j6, dN]
     . have j4 : p % ns.length < ns.length := Nat.mod_lt _ j0
       have j3 : (p * 7 + 3) % ns.length < ns.length := Nat.mod_lt _ j0
       have jb : ns[p % ns.length]? = some ns[p % ns.length] := dS j4
       have jc : ns[(p * 7 + 3) % ns.length]? = some ns[(p * 7 + 3) % ns.length] := dS j3
       have j8 := Zq (f := u8C) jb
       have j7 := Zq (f := u8C) jc
       have jg := hc.b _ (eV j4)
       have jd := hc.b _ (eV j3)
       have jf : p / ns.length <= p := Nat.div_le_self _ _
       have t1 := Zpr p ns.length
       have t2 : (((p : Int) * 7) + 3).tmod (ns.length : Int) = (((p * 7 + 3) % ns.length : Nat) : Int) := by
        have := Zpr (p * 7 + 3) ns.length
        rw [<- this]; rfl
       have t3 := Zpv p ns.length
       generalize hy1 : ns[p % ns.length] = y1 at *
       generalize hy2 : ns[(p * 7 + 3) % ns.length] = y2 at *
       generalize hq : p / ns.length = q at *
       have w1 : IntKind.i64.wrap y1 = y1 := wrap_i64 (by omega) (by omega)
       have w2 : IntKind.i64.wrap y2 = y2 := wrap_i64 (by omega) (by omega)
       have w3 : IntKind.i64.wrap (y1 * 131) = y1 * 131 := wrap_i64 (by omega) (by omega)
       have w4 : IntKind.i64.wrap ((p : Int) * 7) = (p : Int) * 7 := wrap_i64 (by omega) (by omega)
       have w5 : IntKind.i64.wrap ((p : Int) * 7 + 3) = (p : Int) * 7 + 3 := wrap_i64 (by omega) (by omega)
       have w6 : IntKind.i64.wrap (y2 * 1117) = y2 * 1117 := wrap_i64 (by omega) (by omega)
       have w7 : IntKind.i64.wrap (y1 * 131 + y2 * 1117) = y1 * 131 + y2 * 1117 := wrap_i64 (by omega) (by omega)
       have w8 : IntKind.i64.wrap ((p : Int) * 29) = (p : Int) * 29 := wrap_i64 (by omega) (by omega)
       have w9 : IntKind.i64.wrap (y1 * 131 + y2 * 1117 + (p : Int) * 29) = y1 * 131 + y2 * 1117 + (p : Int) * 29 := wrap_i64 (by omega) (by omega)
       have wa : IntKind.i64.wrap (q : Int) = (q : Int) := wrap_i64 (by omega) (by omega)
       have wb : IntKind.i64.wrap ((q : Int) * 53) = (q : Int) * 53 := wrap_i64 (by omega) (by omega)
       have wc : IntKind.i64.wrap (y1 * 131 + y2 * 1117 + (p : Int) * 29 + (q : Int) * 53) = y1 * 131 + y2 * 1117 + (p : Int) * 29 + (q : Int) * 53 := wrap_i64 (by omega) (by omega)
       obtain ⟨z, hz⟩ : ∃ z : Nat, y1 * 131 + y2 * 1117 + (p : Int) * 29 + (q : Int) * 53 = (z : Int) := ⟨(y1 * 131 + y2 * 1117 + (p : Int) * 29 + (q : Int) * 53).toNat, by omega⟩
       have jh : z < 2 ^ 60 := by omega
       have wz : IntKind.i64.wrap (z : Int) = (z : Int) := wrap_i64 (by omega) (by omega)
       have t4 : ((z : Int)).tdiv 64 = ((z / 64 : Nat) : Int) := Zpv z 64
       have wd : IntKind.i64.wrap ((z / 64 : Nat) : Int) = ((z / 64 : Nat) : Int) := wrap_i64 (by omega) (by omega)
       have hx := Znz (a := z) (b := z / 64) (by omega) (by omega)
       have je : IntKind.i64.wrap ((BitVec.ofInt 64 (z : Int) ^^^ BitVec.ofInt 64 ((z / 64 : Nat) : Int)).toNat : Int) = Yat z ((z / 64 : Nat) : Int) := rfl
       refine ⟨(Yat z ((z / 64 : Nat) : Int)).tmod n, ⟨fun h1 => Zxr hx h1, fun h1 => absurd h1 j1⟩, fun D hD h m b hb hh => ?_⟩
       obtain ⟨D, rfl, hd⟩ := Zc hD
       rw [Y1f]
       have j9 : ((64 : Int) = 0) = False := eq_false (by decide)
       simp only [Zs3, go_sem, hh, hb, hw, hw1, hn, j2, j5, hlt, j8, j7, t1, t2, t3, w1, w2, w3, w4, w5, w6, w7, w8, w9, wa, wb, wz, hz, t4, wd, j9, dN]
       rfl
def mix (m : Nat) (f g : Hp) : Hp := fun i => if i < m then f i else g i
theorem Zhk {m i : Nat} (h : i < m) (f g : Hp) : mix m f g i = f i := by simp [mix, h]
theorem Y6a {base m : Nat} (h : base <= m) (f g : Hp) : low base (mix m f g) = low base f := by
 funext i
 simp only [low, mix]
 by_cases h1 : i < base
 . have : i < m := by omega
   simp [h1, this]
 . simp [h1]
theorem Y7n {m : Nat} {f g : Hp} (h : ∀ i, i < m -> g i = f i) : g = mix m f g := by
 funext i
 unfold mix
 by_cases hi : i < m
 . simp [hi, h i hi]
 . simp [hi]
theorem Y3d {V : Type} {i k : Nat} (h : i ≠ k) (f : Nat -> V) (x : V) : upd f k x i = f i := by simp [upd, h]
theorem Z0l {V : Type} (f : Nat -> V) (k : Nat) (x : V) : upd f k x k = x := by simp [upd]
theorem Zt5 (ns : List Int) (hc : Code ns) (xs : List Int) (hx : 0 < xs.length) (p : Nat) (hp : p <= 2 ^ 40) :
 ∃ x, x ∈ xs /\ ∀ (D : Nat) (hD : 2 <= D) (h : Hp) (m b bl c : Nat) (ex : Bool) (hb : b < m) (hbl : ¬ bl = b) (hh : h b = rdB ns p) (hl : h bl = some ⟨Wd, xs.map Zbu, true, false⟩), dcl pr D Zcb [.ptr b 0 0, .ref Wd bl 0 xs.length c ex] h m = some ([.n x], upd h b (rdB ns (p + 1)), m) := by
 obtain ⟨k, hk, he⟩ := Wv ns hc xs.length p hp
 have j0 := hk.1 (by omega)
 obtain ⟨j, rfl⟩ : ∃ j : Nat, k = (j : Int) := ⟨k.toNat, by omega⟩
 have hj : j < xs.length := by omega
 have hg : xs[j]? = some xs[j] := dS hj
 refine ⟨xs[j], eV hj, fun D hD h m b bl c ex hb hbl hh hl => ?_⟩
 obtain ⟨D, rfl, hd⟩ := Zc hD
 have hr := Zq (f := Zbu) hg
 have e := he D hd h m b hb hh
 rw [Y93]
 simp only [Y05, go_sem, e, hj, hl, hbl, hr]
abbrev Yar (s : ByteArray) : List A := [.s s]
theorem Zv4 (ns : List Int) (hc : Code ns) (xs : List ByteArray) (hx : 0 < xs.length) (p : Nat) (hp : p <= 2 ^ 40) :
 ∃ x, x ∈ xs /\ ∀ (D : Nat) (hD : 2 <= D) (h : Hp) (m b bl c : Nat) (ex : Bool) (hb : b < m) (hbl : ¬ bl = b) (hh : h b = rdB ns p) (hl : h bl = some ⟨Wu, xs.map Yar, true, false⟩), dcl pr D Zai [.ptr b 0 0, .ref Wu bl 0 xs.length c ex] h m = some ([.s x], upd h b (rdB ns (p + 1)), m) := by
 obtain ⟨k, hk, he⟩ := Wv ns hc xs.length p hp
 have j0 := hk.1 (by omega)
 obtain ⟨j, rfl⟩ : ∃ j : Nat, k = (j : Int) := ⟨k.toNat, by omega⟩
 have hj : j < xs.length := by omega
 have hg : xs[j]? = some xs[j] := dS hj
 refine ⟨xs[j], eV hj, fun D hD h m b bl c ex hb hbl hh hl => ?_⟩
 obtain ⟨D, rfl, hd⟩ := Zc hD
 have hr := Zq (f := Yar) hg
 have e := he D hd h m b hb hh
 rw [Yc6]
 simp only [Y5e, go_sem, e, hj, hl, hbl, hr]
abbrev Zx7 : List Int := [0, 1, 2, 3, -1, 7, 999, -999]
abbrev Zr0 : List ByteArray := [⟨#[]⟩, ⟨#[97]⟩, ⟨#[98]⟩, ⟨#[97, 98]⟩, ⟨#[49, 50]⟩, ⟨#[45, 53]⟩, ⟨#[48, 48, 55]⟩, ⟨#[122, 122, 122, 122]⟩, ⟨#[51]⟩]
theorem fin {m k : Nat} {r : List A} {H f : Hp} (hH : ∀ i, i < m -> H i = f i) : some (r, H, k) = some (r, mix m f H, k) := by rw [<- Y7n hH]
def Zoc (ns : List Int) (p k f : Nat) (xs : List A) (rs : List A) (p' g : Nat) (G : Hp -> Nat -> Nat -> Hp) : Prop :=
 ∀ (D : Nat) (_ : k + 1 <= D) (h : Hp) (m b : Nat) (_ : b < m) (_ : h b = rdB ns p), dcl pr D f (.ptr b 0 0 :: xs) h m = some (rs, mix m (upd h b (rdB ns p')) (G h m b), m + g)
theorem Z45 {ns : List Int} {p k f : Nat} {xs rs : List A} {p' g : Nat}
 (H : ∀ (h : Hp) (m b : Nat), b < m -> h b = rdB ns p -> ∃ G, ∀ (d : Nat), k <= d -> dcl pr (d + 1) f (.ptr b 0 0 :: xs) h m = some (rs, mix m (upd h b (rdB ns p')) G, m + g)) : ∃ G, Zoc ns p k f xs rs p' g G := by
 classical
 refine ⟨fun h m b => if hc : b < m /\ h b = rdB ns p then Classical.choose (H h m b hc.1 hc.2) else h, fun D hD h m b hb hh => ?_⟩
 have hc : b < m /\ h b = rdB ns p := ⟨hb, hh⟩
 obtain ⟨d, rfl, hd⟩ := Zc hD
 simp only [dif_pos hc]
 exact Classical.choose_spec (H h m b hb hh) d hd
def Drawn (kind : Int) (v : Val) : Prop := v = ⟨0, 0, ⟨#[]⟩⟩ \/ (v.k = kind /\ ((kind = 1 /\ v.n ∈ Zx7 /\ v.t = ⟨#[]⟩) \/ (¬ kind = 1 /\ v.n = 0 /\ v.t ∈ Zr0)))
theorem Drawn.size {kind : Int} {v : Val} (h : Drawn kind v) : v.t.size <= 4 := by
 rcases h with rfl | ⟨_, ⟨_, _, h⟩ | ⟨_, _, h⟩⟩
 . exact dG _
 . rw [h]; exact dG _
 . have : ∀ t ∈ Zr0, t.size <= 4 := by decide
   exact this _ h
theorem Zl8 (ns : List Int) (hc : Code ns) (kind : Int) (p : Nat) (hp : p + 2 <= 2 ^ 40) :
 ∃ (v : Val) (p' g : Nat) (G : Hp -> Nat -> Nat -> Hp), Drawn kind v /\ p' <= p + 2 /\ Zoc ns p 2 Xo [.n kind] [.agg v.c] p' g G := by
 obtain ⟨x, hx, ex⟩ := Wv ns hc 6 p (by omega)
 by_cases h0 : x = 0 \/ kind = 0
 . obtain ⟨G, hG⟩ := Z45 (ns := ns) (p := p) (k := 2) (f := Xo) (xs := [.n kind]) (rs := [.agg (⟨0, 0, ⟨#[]⟩⟩ : Val).c]) (p' := p + 1) (g := 1) (fun h m b hb hh => by
    have j3 : ¬ b = m := by omega
    have j4 : ¬ m = b := by omega
    have j6 : b < m + 1 := by omega
    refine ⟨?G1, fun D hD => ?_⟩
    rotate_left
    . rw [Z7v]
      have hq : (decide (x = 0) || decide (kind = 0)) = true := by rcases h0 with h | h <;> simp [h]
      simp only [Z21, go_sem, ex D (by omega), j3, j4, j6, hh, hq]
      refine fin (fun i hi => ?_)
      have h1 : ¬ i = m := by omega
      simp only [Z7, h1, if_false])
   exact ⟨_, _, _, G, .inl rfl, by omega, hG⟩
 . have j9 : ¬ x = 0 /\ ¬ kind = 0 := not_or.1 h0
   have q1 := eq_false j9.1
   have q2 := eq_false j9.2
   by_cases hk : kind = 1
   . obtain ⟨y, hy, ey⟩ := Zt5 ns hc Zx7 (by decide) (p + 1) (by omega)
     obtain ⟨G, hG⟩ := Z45 (ns := ns) (p := p) (k := 2) (f := Xo) (xs := [.n kind]) (rs := [.agg (⟨kind, y, ⟨#[]⟩⟩ : Val).c]) (p' := p + 2) (g := 3) (fun h m b hb hh => by
      have j3 : ¬ b = m := by omega
      have j4 : ¬ m = b := by omega
      have j6 : b < m + 1 := by omega
      have j0 : ¬ b = m + 1 := by omega
      have j1 : ¬ m + 1 = b := by omega
      have j8 : b < m + 1 + 1 := by omega
      have j7 : ¬ m = m + 1 := by omega
      have j2 : ¬ m + 1 = m := by omega
      refine ⟨?G2, fun D hD => ?_⟩
      rotate_left
      . rw [Z7v]
        have ja := eq_true hk
        have j5 := fun h m b bl => ey D (by omega) h m b bl 8 true
        simp only [eF, eG] at j5
        simp only [Z21, go_sem, ex D (by omega), j5, j3, j4, j6, j0, j1, j8, j7, j2, hh, q1, q2, ja]
        refine fin (fun i hi => ?_)
        have h1 : ¬ i = m := by omega
        have h2 : ¬ i = m + 1 := by omega
        by_cases h3 : i = b <;> simp only [Z7, h1, h2, h3, j3, j0, if_false, if_true])
     exact ⟨_, _, _, G, .inr ⟨rfl, .inl ⟨hk, hy, rfl⟩⟩, by omega, hG⟩
   . have q3 := eq_false hk
     obtain ⟨y, hy, ey⟩ := Zv4 ns hc Zr0 (by decide) (p + 1) (by omega)
     obtain ⟨G, hG⟩ := Z45 (ns := ns) (p := p) (k := 2) (f := Xo) (xs := [.n kind]) (rs := [.agg (⟨kind, 0, y⟩ : Val).c]) (p' := p + 2) (g := 3) (fun h m b hb hh => by
      have j3 : ¬ b = m := by omega
      have j4 : ¬ m = b := by omega
      have j6 : b < m + 1 := by omega
      have j0 : ¬ b = m + 1 := by omega
      have j1 : ¬ m + 1 = b := by omega
      have j8 : b < m + 1 + 1 := by omega
      have j7 : ¬ m = m + 1 := by omega
      have j2 : ¬ m + 1 = m := by omega
      refine ⟨?G3, fun D hD => ?_⟩
      rotate_left
      . rw [Z7v]
        have j5 := fun h m b bl => ey D (by omega) h m b bl 9 true
        simp only [eF, eG] at j5
        simp only [Z21, go_sem, ex D (by omega), j5, j3, j4, j6, j0, j1, j8, j7, j2, hh, q1, q2, q3]
        refine fin (fun i hi => ?_)
        have h1 : ¬ i = m := by omega
        have h2 : ¬ i = m + 1 := by omega
        by_cases h3 : i = b <;> simp only [Z7, h1, h2, h3, j3, j0, if_false, if_true])
     exact ⟨_, _, _, G, .inr ⟨rfl, .inr ⟨hk, rfl, hy⟩⟩, by omega, hG⟩
theorem Zjn (ns : List Int) (hc : Code ns) (kind : Int) (p : Nat) (hp : p + 2 <= 2 ^ 40) :
 ∃ (v : Val) (p' g : Nat) (G : Hp -> Nat -> Nat -> Hp), v.t.size <= 4 /\ p' <= p + 2 /\ Zoc ns p 2 Xo [.n kind] [.agg v.c] p' g G := by
 obtain ⟨v, p', g, G, h, r⟩ := Zl8 ns hc kind p hp
 exact ⟨v, p', g, G, h.size, r⟩
abbrev Yd6 : List Int := [0, 3, -1, 1, 2]
abbrev Yc0 : List Int := [1000, -1000, 5, 9223372036854775807]
abbrev Y9e : List ByteArray := [⟨#[97, 98, 99, 100, 101]⟩, ⟨#[65]⟩, ⟨#[113]⟩, ⟨#[39]⟩]
theorem Y1i (ns : List Int) (hc : Code ns) (v : Val) (hv : v.t.size <= 5) (p : Nat) (hp : p + 2 <= 2 ^ 40) :
 ∃ (v' : Val) (p' g : Nat) (G : Hp -> Nat -> Nat -> Hp), v'.t.size <= 5 /\ p' <= p + 2 /\ Zoc ns p 2 Ww [.agg v.c] [.agg v'.c] p' g G := by
 obtain ⟨x, hx, ex⟩ := Wv ns hc 32 p (by omega)
 by_cases h0 : x = 0
 . obtain ⟨y, hy, ey⟩ := Zt5 ns hc Yd6 (by decide) (p + 1) (by omega)
   obtain ⟨G, hG⟩ := Z45 (ns := ns) (p := p) (k := 2) (f := Ww) (xs := [.agg v.c]) (rs := [.agg (⟨y, v.n, v.t⟩ : Val).c]) (p' := p + 2) (g := 4) (fun h m b hb hh => by
    have j4 : ¬ b = m := by omega
    have j6 : ¬ m = b := by omega
    have j1 : ¬ b = m + 1 := by omega
    have j3 : ¬ m + 1 = b := by omega
    have ja : ¬ b = m + 1 + 1 := by omega
    have j9 : ¬ m + 1 + 1 = b := by omega
    have j0 : ¬ b = m + 2 := by omega
    have j2 : ¬ m + 2 = b := by omega
    have j7 : b < m + 2 := by omega
    have j8 : b < m + 2 + 1 := by omega
    have m1 : ¬ m = m + 1 := by omega
    have m2 : ¬ m + 1 = m := by omega
    have m3 : ¬ m = m + 2 := by omega
    have m4 : ¬ m + 2 = m := by omega
    have m5 : ¬ m + 1 = m + 2 := by omega
    have m6 : ¬ m + 2 = m + 1 := by omega
    refine ⟨?G1, fun D hD => ?_⟩
    rotate_left
    . rw [Z42]
      have q0 := eq_true h0
      have j5 := fun h m b bl => ey D (by omega) h m b bl 5 true
      simp only [eF, eG] at j5
      simp only [Z0g, go_sem, ex D (by omega), j5, j4, j6, j1, j3, j0, j2, j7, j8, m1, m2, m3, m4, m5, m6, hh, q0]
      refine fin (fun i hi => ?_)
      have h1 : ¬ i = m := by omega
      have h2 : ¬ i = m + 1 := by omega
      have h4 : ¬ i = m + 2 := by omega
      by_cases h3 : i = b <;> simp only [Z7, h1, h2, h3, h4, j4, j1, j0, if_false, if_true])
   exact ⟨⟨y, v.n, v.t⟩, p + 2, 4, G, hv, by omega, hG⟩
 . have q0 := eq_false h0
   by_cases h1 : x = 1
   . obtain ⟨y, hy, ey⟩ := Zt5 ns hc Yc0 (by decide) (p + 1) (by omega)
     obtain ⟨G, hG⟩ := Z45 (ns := ns) (p := p) (k := 2) (f := Ww) (xs := [.agg v.c]) (rs := [.agg (⟨v.k, y, v.t⟩ : Val).c]) (p' := p + 2) (g := 4) (fun h m b hb hh => by
      have j4 : ¬ b = m := by omega
      have j6 : ¬ m = b := by omega
      have j1 : ¬ b = m + 1 := by omega
      have j3 : ¬ m + 1 = b := by omega
      have j0 : ¬ b = m + 2 := by omega
      have j2 : ¬ m + 2 = b := by omega
      have j7 : b < m + 2 := by omega
      have j8 : b < m + 2 + 1 := by omega
      have m1 : ¬ m = m + 1 := by omega
      have m2 : ¬ m + 1 = m := by omega
      have m3 : ¬ m = m + 2 := by omega
      have m4 : ¬ m + 2 = m := by omega
      have m5 : ¬ m + 1 = m + 2 := by omega
      have m6 : ¬ m + 2 = m + 1 := by omega
      refine ⟨?G2, fun D hD => ?_⟩
      rotate_left
      . rw [Z42]
        have q1 := eq_true h1
        have j5 := fun h m b bl => ey D (by omega) h m b bl 4 true
        simp only [eF, eG] at j5
        simp only [Z0g, go_sem, ex D (by omega), j5, j4, j6, j1, j3, j0, j2, j7, j8, m1, m2, m3, m4, m5, m6, hh, q0, q1]
        refine fin (fun i hi => ?_)
        have h1 : ¬ i = m := by omega
        have h2 : ¬ i = m + 1 := by omega
        have h4 : ¬ i = m + 2 := by omega
        by_cases h3 : i = b <;> simp only [Z7, h1, h2, h3, h4, j4, j1, j0, if_false, if_true])
     exact ⟨⟨v.k, y, v.t⟩, p + 2, 4, G, hv, by omega, hG⟩
   . have q1 := eq_false h1
     by_cases h2 : x = 2
     . obtain ⟨y, hy, ey⟩ := Zv4 ns hc Y9e (by decide) (p + 1) (by omega)
       obtain ⟨G, hG⟩ := Z45 (ns := ns) (p := p) (k := 2) (f := Ww) (xs := [.agg v.c]) (rs := [.agg (⟨v.k, v.n, y⟩ : Val).c]) (p' := p + 2) (g := 4) (fun h m b hb hh => by
        have j4 : ¬ b = m := by omega
        have j6 : ¬ m = b := by omega
        have j1 : ¬ b = m + 1 := by omega
        have j3 : ¬ m + 1 = b := by omega
        have j0 : ¬ b = m + 2 := by omega
        have j2 : ¬ m + 2 = b := by omega
        have j7 : b < m + 2 := by omega
        have j8 : b < m + 2 + 1 := by omega
        have m1 : ¬ m = m + 1 := by omega
        have m2 : ¬ m + 1 = m := by omega
        have m3 : ¬ m = m + 2 := by omega
        have m4 : ¬ m + 2 = m := by omega
        have m5 : ¬ m + 1 = m + 2 := by omega
        have m6 : ¬ m + 2 = m + 1 := by omega
        refine ⟨?G3, fun D hD => ?_⟩
        rotate_left
        . rw [Z42]
          have q2 := eq_true h2
          have j5 := fun h m b bl => ey D (by omega) h m b bl 4 true
          simp only [eF, eG] at j5
          simp only [Z0g, go_sem, ex D (by omega), j5, j4, j6, j1, j3, j0, j2, j7, j8, m1, m2, m3, m4, m5, m6, hh, q0, q1, q2]
          refine fin (fun i hi => ?_)
          have h1 : ¬ i = m := by omega
          have h2 : ¬ i = m + 1 := by omega
          have h4 : ¬ i = m + 2 := by omega
          by_cases h3 : i = b <;> simp only [Z7, h1, h2, h3, h4, j4, j1, j0, if_false, if_true])
       refine ⟨⟨v.k, v.n, y⟩, p + 2, 4, G, ?_, by omega, hG⟩
       have : ∀ t ∈ Y9e, t.size <= 5 := by decide
       exact this y hy
     . have q2 := eq_false h2
       obtain ⟨G, hG⟩ := Z45 (ns := ns) (p := p) (k := 2) (f := Ww) (xs := [.agg v.c]) (rs := [.agg v.c]) (p' := p + 1) (g := 2) (fun h m b hb hh => by
        have j4 : ¬ b = m := by omega
        have j6 : ¬ m = b := by omega
        have j1 : ¬ b = m + 1 := by omega
        have j3 : ¬ m + 1 = b := by omega
        have j7 : b < m + 2 := by omega
        have m1 : ¬ m = m + 1 := by omega
        have m2 : ¬ m + 1 = m := by omega
        refine ⟨?G4, fun D hD => ?_⟩
        rotate_left
        . rw [Z42]
          simp only [Z0g, go_sem, ex D (by omega), j4, j6, j1, j3, j7, m1, m2, hh, q0, q1, q2]
          refine fin (fun i hi => ?_)
          have h1 : ¬ i = m := by omega
          have h2 : ¬ i = m + 1 := by omega
          by_cases h3 : i = b <;> simp only [Z7, h1, h2, h3, j4, j1, if_false, if_true])
       exact ⟨v, p + 1, 2, G, hv, by omega, hG⟩
theorem Zji (ns : List Int) (hc : Code ns) (p : Nat) (hp : p + 5 <= 2 ^ 40) :
 ∃ (v : Val) (p' g : Nat) (G : Hp -> Nat -> Nat -> Hp), v.t.size <= 5 /\ p' <= p + 5 /\ Zoc ns p 3 Vs [] [.agg v.c] p' g G := by
 obtain ⟨x, hx, ex⟩ := Wv ns hc 3 p (by omega)
 obtain ⟨v, p1, g1, G1, hv, j4, e1⟩ := Zjn ns hc x (p + 1) (by omega)
 obtain ⟨u, p2, g2, G2, hu, j5, e2⟩ := Y1i ns hc v (by omega) p1 (by omega)
 obtain ⟨G, hG⟩ := Z45 (ns := ns) (p := p) (k := 3) (f := Vs) (xs := []) (rs := [.agg u.c]) (p' := p2) (g := 1 + g1 + g2) (fun h m b hb hh => by
  have j2 : ¬ b = m := by omega
  have j0 : ¬ m = b := by omega
  have j1 : b < m + 1 := by omega
  have j3 : b < m + 1 + g1 := by omega
  have n1 : m < m + 1 := by omega
  have n2 : m < m + 1 + g1 := by omega
  refine ⟨?G1, fun D hD => ?_⟩
  rotate_left
  . rw [Zia, show m + (1 + g1 + g2) = m + 1 + g1 + g2 by omega]
    simp only [Z7u, go_sem, ex D (by omega), e1 D (by omega), e2 D (by omega), j2, j0, j1, j3, n1, n2, hh, Zhk]
    refine fin (fun i hi => ?_)
    have h1 : ¬ i = m := by omega
    have h5 : i < m + 1 := by omega
    have h6 : i < m + 1 + g1 := by omega
    by_cases h3 : i = b
    . subst h3
      simp only [Z7, Zhk, h1, h5, h6, if_false, if_true]
    . simp only [Z7, Zhk, h1, h3, h5, h6, if_false])
 exact ⟨u, p2, _, G, hu, by omega, hG⟩
theorem Zty {D : Nat} (hD : 1 <= D) (ns : List Int) (hl : ns.length <= maxLen) (h : Hp) (m : Nat) :
 dcl pr D Z2z [.lit Vf (ns.map u8C)] h m = some ([.ptr (m + 1) 0 0], upd (upd h m (some ⟨Vf, [], true, false⟩)) (m + 1) (rdB (ns.take 2000) 0), m + 2) := by
 obtain ⟨D, rfl, hd⟩ := Zc hD
 rw [Zfs]
 by_cases hn : (2000 : Int) < (ns.length : Int)
 . have h1 : 2000 <= ns.length := by omega
   have h2 : (2000 : Int).toNat = 2000 := rfl
   have h3 : (0 : Int) <= 2000 := by decide
   simp only [Z2m, go_sem, dN, hn, h1, h2, h3, dG, dO]
   rw [<- gQ]
   rfl
 . have h1 : ns.take 2000 = ns := dP (by omega)
   rw [h1]
   simp only [Z2m, go_sem, dN, hn]
   rfl
def Znf (e : Ent) : Nat -> Unit -> Ent -> Unit ⊕ Nat := fun i _ x => bif Ym x e then .inl () else .inr i
def Zpb (e : Ent) (es : List Ent) : Nat := match Zv (Znf e) 0 () es with
 | .inl _ => es.length
 | .inr i => i
def Zfm (e : Ent) (es : List Ent) : List Ent := es.take (Zpb e es) ++ [e] ++ es.drop (Zpb e es)
theorem Y2y (e : Ent) : ∀ (es : List Ent) (i k : Nat), Zv (Znf e) i () es = .inr k -> i <= k /\ k < i + es.length
 | [], i, k, h => nomatch h
 | x :: es, i, k, h => by
   unfold Zv Znf at h
   cases hx : Ym x e with
   | false =>
     simp [hx] at h
     subst h
     simp
   | true =>
     simp only [hx, cond_true] at h
     have := Y2y e es (i + 1) k h
     simp only [eF]
     omega
theorem Zo0 (e : Ent) (es : List Ent) : Zpb e es <= es.length := by
 unfold Zpb
 split
 . exact dO _
 . rename_i i h
   have := Y2y e es 0 i h
   omega
theorem Zzr {D : Nat} (hD : 2 <= D) (e : Ent) (es : List Ent) (hl : es.length <= big) :
 Vg (Zd (Zj (aH D) Z6e) [0, 3, 5] rounds ⟨upd (upd (upd (fun _ => .bad) 0 (.lit Z5 (es.map Ent.c))) 3 (.ptr 0 0 0)) 5 (.n (0 : Nat)), upd (fun _ => none) 0 (some ⟨Z5, [e.c], true, true⟩), 1, 0⟩) Unit Nat (Zv (Znf e) 0 () es)
  (fun _ o => ∃ U', o = .exit 0 U' /\ U'.s 0 = .lit Z5 (es.map Ent.c) /\ U'.s 3 = .ptr 0 0 0 /\ U'.s 5 = .n es.length /\ U'.h = upd (fun _ => none) 0 (some ⟨Z5, [e.c], true, true⟩) /\ U'.n = 1 /\ U'.base = 0) (fun i o => ∃ U', o = .exit 0 U' /\ U'.s 0 = .lit Z5 (es.map Ent.c) /\ U'.s 3 = .ptr 0 0 0 /\ U'.s 5 = .n i /\ U'.h = upd (fun _ => none) 0 (some ⟨Z5, [e.c], true, true⟩) /\ U'.n = 1 /\ U'.base = 0) := by
 refine Zt es (fun i (_ : Unit) => ⟨upd (upd (upd (fun _ => .bad) 0 (.lit Z5 (es.map Ent.c))) 3 (.ptr 0 0 0)) 5 (.n i), upd (fun _ => none) 0 (some ⟨Z5, [e.c], true, true⟩), 1, 0⟩) _ (fun _ _ => True) _ _ () trivial hl (fun i _ x K hc hlt hi => ?_) (fun _ K _ => ?_)
 . have hr := Zq (f := Ent.c) hc
   have hw := Zk (n := i) (by unfold big at hl; omega)
   have hm := Zzg hD x e
   simp only [Zd, Za3, Z30, go_sem, dN, hr, hlt, hw, hm, Znf]
   cases Ym x e with
   | true => simp only [go_sem]
   | false => simp only [go_sem]; exact ⟨_, rfl, _, rfl, rfl, rfl, rfl, rfl, rfl, rfl⟩
 . have hi : ¬ es.length < es.length := by omega
   have hr : (es.map Ent.c)[es.length]? = none := by simp
   simp only [Zd, Za3, Z30, go_sem, dN, hi, hr]
   exact ⟨_, rfl, _, rfl, rfl, rfl, rfl, rfl, rfl, rfl⟩
theorem Y4m {D : Nat} (hD : 3 <= D) (e : Ent) (es : List Ent) (hl : es.length + 1 <= big) : den pr D Z5t [.lit Z5 (es.map Ent.c), .agg e.c] = some [.olit Z5 ((Zfm e es).map Ent.c)] := by
 obtain ⟨D, rfl, hd⟩ := Zc hD
 rw [Zln]
 obtain ⟨out, lo, lp⟩ := Zzr hd e es (by omega)
 rw [show ((0 : Nat) : Int) = 0 from rfl] at lo
 have hk : ∃ U', out = .exit 0 U' /\ U'.s 0 = .lit Z5 (es.map Ent.c) /\ U'.s 3 = .ptr 0 0 0 /\ U'.s 5 = .n (Zpb e es) /\ U'.h = upd (fun _ => none) 0 (some ⟨Z5, [e.c], true, true⟩) /\ U'.n = 1 /\ U'.base = 0 := by
  unfold Zpb
  cases hr : Zv (Znf e) 0 () es with
  | inl _ => rw [hr] at lp; exact lp
  | inr i => rw [hr] at lp; exact lp
 obtain ⟨U', rfl, l1, l2, l3, l4, l5, l6⟩ := hk
 have j0 := Zo0 e es
 unfold Zfm
 generalize Zpb e es = k at *
 have e1 : es.length - k <= big := by omega
 have e2 : k + 1 + (es.length - k) <= big := by omega
 have e3 : k <= big := by omega
 have e4 : k + 1 <= big := by omega
 have e5 : min k es.length = k := by omega
 have e6 : ((es.map Ent.c).take k).take k = (es.map Ent.c).take k := by rw [List.take_take, Nat.min_self]
 have e7 : ((es.map Ent.c).drop k).take (es.length - k) = (es.map Ent.c).drop k := dP (by simp)
 have e8 : ((es.map Ent.c).take k ++ [e.c]).take (k + 1) = (es.map Ent.c).take k ++ [e.c] := dP (by simp; omega)
 have e9 : (es.take k ++ [e] ++ es.drop k).map Ent.c = (es.map Ent.c).take k ++ [e.c] ++ (es.map Ent.c).drop k := by simp
 have ea : ((3 : Nat) == 0) = false := rfl
 rw [e9]
 simp only [Z98, go_sem, lo, l1, l2, l3, l4, l5, l6, dN, gS, gB, eE, j0, e1, e2, e3, e4, e5, e6, e7, e8, dG, dO, fL, fQ, Zb, ea]
theorem Zdf (e : Ent) (es : List Ent) : (Zfm e es).length = es.length + 1 := by
 have := Zo0 e es
 unfold Zfm
 simp
 omega
end Go.Vm.T
namespace Go.Vm.T
attribute [go_sem] Nat.add_eq_zero_iff Nat.add_assoc Nat.add_left_cancel_iff Nat.left_eq_add Nat.add_eq_left Nat.add_lt_add_iff_left Nat.lt_add_right_iff_pos Zhk
variable [Pr0]
theorem ltS (m k : Nat) : (m + k < m) = False := eq_false (by omega)
theorem leS (m k : Nat) : (m <= m + k) = True := eq_true (by omega)
theorem Zpm (m k : Nat) (h : Hp) (x : Option Blk) : low m (upd h (m + k) x) = low m h := by
 funext i
 simp only [low, Z7]
 by_cases h1 : i < m
 . rw [if_pos h1, if_pos h1, if_neg (by omega)]
 . rw [if_neg h1, if_neg h1]
theorem Zwn (m : Nat) (h : Hp) (x : Option Blk) : low m (upd h m x) = low m h := Zpm m 0 h x
theorem Y19 (m k : Nat) (f g : Hp) : low m (mix (m + k) f g) = low m f := Y6a (Nat.le_add_right _ _) f g
attribute [go_sem] ltS leS Zpm Zwn Y19 Y71
theorem eqF {a b : Nat} (h : ¬ a = b) : (a = b) = False := eq_false h
structure Below (b m : Nat) : Prop where
 e : (b = m) = False
 e' : (m = b) = False
 k : ∀ k, (b = m + k) = False
 k' : ∀ k, (m + k = b) = False
 l : (b < m) = True
 lk : ∀ k, (b < m + k) = True
theorem Below.b {b m : Nat} (B : Below b m) : (b = m) = False /\ (m = b) = False /\ (∀ k, (b = m + k) = False) /\ ∀ k, (m + k = b) = False := ⟨B.e, B.e', B.k, B.k'⟩
theorem Below.a {b m : Nat} (B : Below b m) : (b = m) = False /\ (m = b) = False /\ (∀ k, (b = m + k) = False) /\ (∀ k, (m + k = b) = False) /\ (b < m) = True /\ ∀ k, (b < m + k) = True := ⟨B.e, B.e', B.k, B.k', B.l, B.lk⟩
theorem Z8 {b m : Nat} (h : b < m) : Below b m := ⟨eq_false (by omega), eq_false (by omega), fun k => eq_false (by omega), fun k => eq_false (by omega), eq_true h, fun k => eq_true (by omega)⟩
theorem Ydm {m k b : Nat} {r : List A} {H h : Hp} {x : Option Blk} (h1 : H b = x) (h2 : ∀ i, i < m -> ¬ i = b -> H i = h i) : some (r, H, k) = some (r, mix m (upd h b x) H, k) := fin fun i hi => by
 by_cases hb : i = b
 . subst hb; rw [h1, Z0l]
 . rw [Y3d hb, h2 i hi hb]
structure DrawnC (nm : ByteArray) (c : ColV) : Prop where
 nm : c.nm = nm
 k : c.k = 1 \/ c.k = 2
 df : Drawn c.k c.df
 once : c.once = true -> c.df = ⟨0, 0, ⟨#[]⟩⟩
theorem Zrh {P : Prop} {ns : List Int} {p k f : Nat} {xs rs : List A} {p' q g : Nat} (hP : P) (hq : p' <= q)
 (H : ∀ (h : Hp) (m b : Nat), h b = rdB ns p -> Below b m -> ∃ G, ∀ (d : Nat), k <= d -> dcl pr (d + 1) f (.ptr b 0 0 :: xs) h m = some (rs, mix m (upd h b (rdB ns p')) G, m + g)) : ∃ G, P /\ p' <= q /\ Zoc ns p k f xs rs p' g G := by
 obtain ⟨G, hG⟩ := Z45 (ns := ns) (p := p) (k := k) (f := f) (xs := xs) (rs := rs) (p' := p') (g := g) (fun h m b hb hh => H h m b hh (Z8 hb))
 exact ⟨G, hP, hq, hG⟩
theorem Zv5 (ns : List Int) (hc : Code ns) (nm : ByteArray) (p : Nat) (hp : p + 5 <= 2 ^ 40) :
 ∃ c p' g G, DrawnC nm c /\ p' <= p + 5 /\ Zoc ns p 3 Z3c [.s nm] [.agg c.c] p' g G := by
 obtain ⟨x, hx, ex⟩ := Wv ns hc 2 p (by omega)
 obtain ⟨y, hy, ey⟩ := Wv ns hc 4 (p + 1) (by omega)
 obtain ⟨z, hz, ez⟩ := Wv ns hc 4 (p + 2) (by omega)
 have j2 := hx.1 (by decide)
 have j1 : IntKind.i64.wrap (1 + x) = 1 + x := wrap_i64 (by omega) (by omega)
 by_cases hz0 : z = 0
 . have q := eq_true hz0
   refine ⟨⟨nm, 1 + x, decide (y = 0), true, ⟨0, 0, ⟨#[]⟩⟩⟩, p + 3, _, Zrh ⟨rfl, by simp only; omega, .inl rfl, fun _ => rfl⟩ (by omega) (fun h m b hh B => by
    refine ⟨?_, fun D hD => ?_⟩
    rotate_left
    rw [Zcx]
    simp only [Z5n, go_sem, ex D (by omega), ey D (by omega), ez D (by omega), j1, hh, q, B.a]
    refine Ydm ?_ (fun i hi j0 => ?_)
    . simp only [go_sem, B.a]
    . have I := Z8 hi
      simp only [go_sem, j0, I.a])⟩
 . have q := eq_false hz0
   obtain ⟨v, p1, g1, G1, hv, j3, e1⟩ := Zl8 ns hc (1 + x) (p + 3) (by omega)
   refine ⟨⟨nm, 1 + x, decide (y = 0), false, v⟩, p1, _, Zrh ⟨rfl, by simp only; omega, hv, fun h => by cases h⟩ (by omega) (fun h m b hh B => by
    refine ⟨?_, fun D hD => ?_⟩
    rotate_left
    rw [Zcx]
    simp only [Z5n, go_sem, ex D (by omega), ey D (by omega), ez D (by omega), e1 D (by omega), j1, hh, q, B.a]
    refine Ydm ?_ (fun i hi j0 => ?_)
    . simp only [go_sem, B.a]
    . have I := Z8 hi
      simp only [go_sem, j0, I.a])⟩
end Go.Vm.T
namespace Go.Vm.T
class Pr1 extends Pr0 where
 num : pg.ext Ys = some Ztw
variable [Pr1]
theorem Zjm (D : Nat) (as : List A) : den pr (D + 1) Ys as = Ztw as := Zan Pr1.num
def Zrj (neg : Bool) (l : List UInt8) : Option Nat := if l.length = 0 \/ 17 < l.length \/ (l.head? = some 48 /\ (1 < l.length \/ neg = true)) then none else Lib.decFrom 0 l
def Zy5 (l : List UInt8) : Option Int := if l.head? = some 45 then (Zrj true l.tail).map (fun m => -(m : Int)) else (Zrj false l).map (fun m => (m : Int))
def Yaw (_ : Nat) (acc : Nat) (c : UInt8) : Nat ⊕ Unit := match Lib.digitVal c with
 | some d => .inl (acc * 10 + d)
 | none => .inr ()
theorem Zvr : ∀ (l : List UInt8) (i acc : Nat), (Zv Yaw i acc l : Nat ⊕ Unit) = match Lib.decFrom acc l with | some m => .inl m | none => .inr ()
 | [], i, acc => rfl
 | c :: l, i, acc => by
   unfold Zv Lib.decFrom Yaw
   cases Lib.digitVal c with
   | none => rfl
   | some d => exact Zvr l (i + 1) _
theorem Ycy {i m acc d : Nat} (hi : i < 17) (h : acc < 10 ^ i) (hd : d <= 9) : acc * 10 + d < 10 ^ (i + 1) := by
 rw [Nat.pow_succ]; omega
theorem Zzv {i : Nat} (hi : i <= 17) : 10 ^ i <= 100000000000000000 := by
 have := Nat.pow_le_pow_right (n := 10) (by decide) hi
 have e : (10 : Nat) ^ 17 = 100000000000000000 := by decide
 omega
theorem Zeo (E : Env) (neg : Bool) (t : ByteArray) (ht : t.size <= 17) :
 Vg (Zd (Zj E Z25) [0, 4, 5, 6] rounds ⟨upd (upd (upd (upd (fun _ => .bad) 0 (.s t)) 4 (.q neg)) 5 (.n (0 : Nat))) 6 (.n (0 : Nat)), fun _ => none, 0, 0⟩) Nat Unit (match Lib.decFrom 0 t.data.toList with | some m => .inl m | none => .inr ())
  (fun m o => ∃ U', o = .exit 0 U' /\ U'.s 4 = .q neg /\ U'.s 5 = .n m) (fun _ o => ∃ U', o = .ret U' /\ U'.s 2 = .n 0 /\ U'.s 3 = .q false) := by
 rw [<- Zvr _ 0]
 have j2 : t.size = t.data.toList.length := Z8z t
 refine Zt t.data.toList (fun i (acc : Nat) => ⟨upd (upd (upd (upd (fun _ => .bad) 0 (.s t)) 4 (.q neg)) 5 (.n acc)) 6 (.n i), fun _ => none, 0, 0⟩) Yaw (fun i acc => acc < 10 ^ i) _ _ 0 (by decide) (by rw [<- j2]; unfold big; omega) (fun i acc c K hc hlt hI => ?_) (fun acc K _ => ?_)
 . have j0 : i < t.size := by omega
   have hw := Zk (n := i) (by omega)
   have hp := Zzv (show i <= 17 by omega)
   unfold Yaw Lib.digitVal
   have j1 : c.toNat < 256 := c.toNat_lt
   by_cases h1 : 48 <= c.toNat /\ c.toNat <= 57
   . rw [if_pos h1]
     have g1 : ¬ ((c.toNat : Int) < 48) := by omega
     have g2 : ¬ ((57 : Int) < (c.toNat : Int)) := by omega
     have w1 : IntKind.u8.wrap ((c.toNat : Int) - 48) = ((c.toNat - 48 : Nat) : Int) := by
      rw [IntWalk.u8_in _ ⟨by omega, by omega⟩]; omega
     have w2 : IntKind.i64.wrap ((c.toNat - 48 : Nat) : Int) = ((c.toNat - 48 : Nat) : Int) := wrap_i64 (by omega) (by omega)
     have w3 : IntKind.i64.wrap ((acc : Int) * 10) = ((acc * 10 : Nat) : Int) := by rw [wrap_i64 (by omega) (by omega)]; omega
     have w4 : IntKind.i64.wrap (((acc * 10 : Nat) : Int) + ((c.toNat - 48 : Nat) : Int)) = ((acc * 10 + (c.toNat - 48) : Nat) : Int) := by rw [wrap_i64 (by omega) (by omega)]; omega
     simp only [Zd, Z1p, Vc, go_sem, hc, j0, hw, g1, g2, w1, w2, w3, w4]
     exact Ycy (m := 0) (by omega) hI (by omega)
   . rw [if_neg h1]
     by_cases g1 : ((c.toNat : Int) < 48)
     . simp only [Zd, Z1p, Vc, go_sem, hc, j0, g1]
       exact ⟨_, rfl, _, rfl, rfl, rfl⟩
     . have g2 : ((57 : Int) < (c.toNat : Int)) := by omega
       simp only [Zd, Z1p, Vc, go_sem, hc, j0, g1, g2]
       exact ⟨_, rfl, _, rfl, rfl, rfl⟩
 . have hi : ¬ t.data.toList.length < t.size := by omega
   simp only [Zd, Z1p, Vc, go_sem, hi]
   exact ⟨_, rfl, _, rfl, rfl, rfl⟩
def Z2i : ACode := (.sq (.sq (.rg 0 false [.o (.mv 18 (.t 0)), .o (.len 19 true (.t 18)), .o (.bin 20 .eql (.t 19) (.k (.v (.int .i64 0)))), .o (.mv 21 (.t 20)), .g 21 false (.mv 22 (.t 0)), .g 21 false (.len 23 true (.t 22)), .g 21 false (.bin 24 .gtr (.t 23) (.k (.v (.int .i64 17)))), .o (.pick 25 (.t 21) (.k (.v (.bool true))) (.t 24)), .o (.mv 26 (.t 25)), .g 26 false (.mv 27 (.t 0)), .g 26 false (.ix 28 (.t 27) (.k (.v (.int .i64 0)))), .g 26 false (.bin 29 .eql (.t 28) (.k (.v (.int .u8 48)))), .g 26 false (.mv 30 (.t 29)), .g 30 true (.mv 31 (.t 0)), .g 30 true (.len 32 true (.t 31)), .g 30 true (.bin 33 .gtr (.t 32) (.k (.v (.int .i64 1)))), .g 30 true (.mv 34 (.t 33)), .g 34 false (.mv 35 (.t 4)), .g 30 true (.pick 36 (.t 34) (.k (.v (.bool true))) (.t 35)), .g 26 false (.pick 37 (.t 30) (.t 36) (.k (.v (.bool false)))), .o (.pick 38 (.t 26) (.k (.v (.bool true))) (.t 37))]) (.ite (.t 38) (.sq (.rg 0 false [.o (.mv 2 (.k (.v (.int .i64 0)))), .o (.mv 3 (.k (.v (.bool false))))]) .rt) .sk)) (.sq (.rg 0 false [.o (.mv 5 (.k (.v (.int .i64 0))))]) (.sq (.sq (.rg 0 false [.o (.mv 6 (.k (.v (.int .i64 0))))]) (.bl 0 (.lp [0, 4, 5, 6] Z25))) (.sq (.sq (.rg 0 false [.o (.mv 63 (.t 4))]) (.ite (.t 63) (.rg 0 false [.o (.mv 64 (.t 5)), .o (.un 65 .neg (.t 64)), .o (.mv 5 (.t 65))]) .sk)) (.sq (.rg 0 false [.o (.mv 66 (.t 5)), .o (.mv 2 (.t 66)), .o (.mv 3 (.k (.v (.bool true))))]) .rt)))))
theorem Zyz (E : Env) (s : Nat -> A) (neg : Bool) (t : ByteArray) (ht : t.size <= big) (s0 : s 0 = .s t) (s4 : s 4 = .q neg) : ∃ U', Zj E Z2i ⟨s, fun _ => none, 0, 0⟩ = some (.ret U') /\
 (match Zrj neg t.data.toList with | some m => U'.s 2 = .n (if neg then -(m : Int) else m) /\ U'.s 3 = .q true | none => U'.s 2 = .n 0 /\ U'.s 3 = .q false) := by
 have j2 := Z8z t
 have j0 : Int.toNat 0 = 0 := rfl
 have j1 : (0 : Int) <= 0 := gU 0
 unfold Zrj
 by_cases h1 : t.size = 0
 . rw [if_pos (.inl (by omega))]
   have hn : t.data.toList[0]? = none := eY (by omega)
   have g1 : ((t.size : Int) = 0) := by omega
   simp only [Z2i, go_sem, s0, s4, g1, j0, j1, hn, ite_self, show Vx true (.ifg false .und) = some false from rfl]
   exact ⟨_, rfl, rfl, rfl⟩
 . obtain ⟨c, r, hl⟩ : ∃ c r, t.data.toList = c :: r := by
    cases hq : t.data.toList with
    | nil => rw [hq] at j2; exact absurd j2 h1
    | cons c r => exact ⟨c, r, rfl⟩
   have hn : t.data.toList[0]? = some c := by rw [hl]; rfl
   have g1 : ¬ ((t.size : Int) = 0) := by omega
   by_cases h2 : 17 < t.size
   . rw [if_pos (.inr (.inl (by omega)))]
     have g2 : (17 : Int) < (t.size : Int) := by omega
     have g3 : (1 : Int) < (t.size : Int) := by omega
     simp only [Z2i, go_sem, s0, s4, g1, g2, g3, j0, j1, hn]
     exact ⟨_, rfl, rfl, rfl⟩
   . have g2 : ¬ (17 : Int) < (t.size : Int) := by omega
     by_cases h3 : c.toNat = 48
     . have g3 : (c.toNat : Int) = 48 := by omega
       by_cases h4 : 1 < t.size
       . rw [if_pos (.inr (.inr ⟨by rw [hl]; simp; exact UInt8.toNat_inj.1 h3, .inl (by omega)⟩))]
         have g4 : (1 : Int) < (t.size : Int) := by omega
         simp only [Z2i, go_sem, s0, s4, g1, g2, g3, g4, j0, j1, hn]
         exact ⟨_, rfl, rfl, rfl⟩
       . have g4 : ¬ (1 : Int) < (t.size : Int) := by omega
         cases neg with
         | true =>
           rw [if_pos (.inr (.inr ⟨by rw [hl]; simp; exact UInt8.toNat_inj.1 h3, .inr rfl⟩))]
           simp only [Z2i, go_sem, s0, s4, g1, g2, g3, g4, j0, j1, hn]
           exact ⟨_, rfl, rfl, rfl⟩
         | false =>
           rw [if_neg (by intro h; rcases h with h | h | ⟨_, h | h⟩ <;> first | omega | cases h)]
           obtain ⟨out, lo, lp⟩ := Zeo E false t (by omega)
           rw [show ((0 : Nat) : Int) = 0 from rfl] at lo
           cases hq : Lib.decFrom 0 t.data.toList with
           | some m =>
             rw [hq] at lp
             obtain ⟨U', rfl, l4, l5⟩ := lp
             have hm : m < 1000000000000000000 := Lib.decFrom_lt18 hq (by omega)
             have hw : IntKind.i64.wrap (0 - (m : Int)) = -(m : Int) := by rw [wrap_i64 (by omega) (by omega)]; omega
             simp only [Z2i, go_sem, s0, s4, g1, g2, g3, g4, j0, j1, hn, lo, l4, l5, hw]
             exact ⟨_, rfl, rfl, rfl⟩
           | none =>
             rw [hq] at lp
             obtain ⟨U', rfl, l2, l3⟩ := lp
             simp only [Z2i, go_sem, s0, s4, g1, g2, g3, g4, j0, j1, hn, lo]
             exact ⟨_, rfl, l2, l3⟩
     . have g3 : ¬ (c.toNat : Int) = 48 := by omega
       have j3 : ¬ c = 48 := fun q => h3 (by rw [q]; rfl)
       rw [if_neg (by intro h; rcases h with h | h | ⟨h, _⟩ <;> first | omega | (rw [hl] at h; simp at h; exact j3 h))]
       cases neg with
       | true =>
         obtain ⟨out, lo, lp⟩ := Zeo E true t (by omega)
         rw [show ((0 : Nat) : Int) = 0 from rfl] at lo
         cases hq : Lib.decFrom 0 t.data.toList with
         | some m =>
           rw [hq] at lp
           obtain ⟨U', rfl, l4, l5⟩ := lp
           have hm : m < 1000000000000000000 := Lib.decFrom_lt18 hq (by omega)
           have hw : IntKind.i64.wrap (0 - (m : Int)) = -(m : Int) := by rw [wrap_i64 (by omega) (by omega)]; omega
           simp only [Z2i, go_sem, s0, s4, g1, g2, g3,  j0, j1, hn, lo, l4, l5, hw]
           exact ⟨_, rfl, rfl, rfl⟩
         | none =>
           rw [hq] at lp
           obtain ⟨U', rfl, l2, l3⟩ := lp
           simp only [Z2i, go_sem, s0, s4, g1, g2, g3,  j0, j1, hn, lo]
           exact ⟨_, rfl, l2, l3⟩
       | false =>
         obtain ⟨out, lo, lp⟩ := Zeo E false t (by omega)
         rw [show ((0 : Nat) : Int) = 0 from rfl] at lo
         cases hq : Lib.decFrom 0 t.data.toList with
         | some m =>
           rw [hq] at lp
           obtain ⟨U', rfl, l4, l5⟩ := lp
           have hm : m < 1000000000000000000 := Lib.decFrom_lt18 hq (by omega)
           have hw : IntKind.i64.wrap (0 - (m : Int)) = -(m : Int) := by rw [wrap_i64 (by omega) (by omega)]; omega
           simp only [Z2i, go_sem, s0, s4, g1, g2, g3,  j0, j1, hn, lo, l4, l5, hw]
           exact ⟨_, rfl, rfl, rfl⟩
         | none =>
           rw [hq] at lp
           obtain ⟨U', rfl, l2, l3⟩ := lp
           simp only [Z2i, go_sem, s0, s4, g1, g2, g3,  j0, j1, hn, lo]
           exact ⟨_, rfl, l2, l3⟩
theorem Zz1 (t : ByteArray) (c : UInt8) (r : List UInt8) (h : t.data.toList = c :: r) : (t.extract 1 t.size).data.toList = r := by
 rw [ByteArray.data_extract]
 simp [Array.toList_extract, h]
 have : t.size = t.data.toList.length := Z8z t
 rw [this, h]; simp
theorem Zeg (E : Env) (s : Nat -> A) (neg : Bool) (t : ByteArray) (ht : t.size <= big) (s0 : s 0 = .s t) (s4 : s 4 = .q neg) : Zbk (Zj E Z2i ⟨s, fun _ => none, 0, 0⟩) (res [.t 2, .t 3]) = some (match Zrj neg t.data.toList with | some m => [.n (if neg then -(m : Int) else m), .q true] | none => [.n 0, .q false]) := by
 obtain ⟨U', e, h⟩ := Zyz E s neg t ht s0 s4
 rw [e]
 cases hq : Zrj neg t.data.toList with
 | some m =>
   rw [hq] at h
   simp only [go_sem, h.1, h.2]
 | none =>
   rw [hq] at h
   simp only [go_sem, h.1, h.2]
theorem Zyg {D : Nat} (hD : 1 <= D) (t : ByteArray) (ht : t.size <= big) : den pr D Z0j [.s t] = some (match Zy5 t.data.toList with | some n => [.n n, .q true] | none => [.n 0, .q false]) := by
 obtain ⟨D, rfl, hd⟩ := Zc hD
 rw [Zic]
 have j6 := Z8z t
 have j2 : Int.toNat 0 = 0 := rfl
 have j4 : Int.toNat 1 = 1 := rfl
 have j3 : (0 : Int) <= 0 := gU 0
 have j5 : (0 : Int) <= 1 := by decide
 have j0 : Zbg.code = .sq (.rg 0 false [.o (.mv 2 (.k (.v (.int .i64 0)))), .o (.mv 3 (.k (.v (.bool false))))]) (.sq (.rg 0 false [.o (.mv 7 (.t 0)), .o (.len 8 true (.t 7)), .o (.bin 9 .gtr (.t 8) (.k (.v (.int .i64 0)))), .o (.mv 10 (.t 9)), .g 10 true (.mv 11 (.t 0)), .g 10 true (.ix 12 (.t 11) (.k (.v (.int .i64 0)))), .g 10 true (.bin 13 .eql (.t 12) (.k (.v (.int .u8 45)))), .o (.pick 14 (.t 10) (.t 13) (.k (.v (.bool false)))), .o (.mv 4 (.t 14))]) (.sq (.sq (.rg 0 false [.o (.mv 15 (.t 4))]) (.ite (.t 15) (.rg 0 false [.o (.mv 16 (.t 0)), .o (.sl 17 none (.t 16) (some (.k (.v (.int .i64 1)))) none none), .o (.mv 0 (.t 17))]) .sk)) Z2i)) := rfl
 have j1 : Zbg.res = [.t 2, .t 3] := rfl
 rw [j0, j1]
 cases hl : t.data.toList with
 | nil =>
   have hn : t.data.toList[0]? = none := by rw [hl]; rfl
   have g1 : ¬ ((0 : Int) < (t.size : Int)) := by rw [j6, hl]; simp
   simp only [go_sem, g1, j2, j3, hn, ite_self]
   rw [Zeg _ _ false t ht rfl rfl, hl]
   rfl
 | cons c r =>
   have hn : t.data.toList[0]? = some c := by rw [hl]; rfl
   have g1 : ((0 : Int) < (t.size : Int)) := by rw [j6, hl]; simp
   by_cases h45 : c.toNat = 45
   . have g2 : (c.toNat : Int) = 45 := by omega
     have hc : c = 45 := UInt8.toNat_inj.1 h45
     have j7 : 1 <= t.size := by omega
     simp only [go_sem, g1, g2, j2, j4, j3, j5, hn, j7, dO, fJ, if_true]
     rw [Zeg _ _ true (t.extract 1 t.size) (by simp; omega) rfl rfl, Zz1 t c r hl]
     subst hc
     simp only [Zy5, gX, if_true, List.tail_cons]
     cases Zrj true r <;> rfl
   . have g2 : ¬ (c.toNat : Int) = 45 := by omega
     have hc : ¬ c = 45 := fun q => h45 (by rw [q]; rfl)
     simp only [go_sem, g1, g2, j2, j4, j3, j5, hn]
     rw [Zeg _ _ false t ht rfl rfl, hl]
     simp only [Zy5, gX, dM, hc, if_false]
     cases Zrj false (c :: r) <;> rfl
end Go.Vm.T
end
