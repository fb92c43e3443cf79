/-
  What the functions under the law compute, of values, entries, sizes, columns, conditions
-/
import Derived.Test.YtcceojmajfinpaaGreatDoorCode
import Derived.Test.YtcceojmajfinpaaGreatDoorVmD
import Derived.IntWalk
section
set_option linter.unusedVariables false
set_option linter.unusedSimpArgs false
set_option linter.unusedSectionVars false
namespace Go.Vm.T
variable [Pr0]
structure Val where
 k : Int
 n : Int
 t : ByteArray
 deriving DecidableEq
abbrev Val.c (v : Val) : List A := [.n v.k, .n v.n, .s v.t]
structure Ent where
 v : Val
 id : Int
 deriving DecidableEq
abbrev Ent.c (e : Ent) : List A := [.n e.v.k, .n e.v.n, .s e.v.t, .n e.id]
theorem Zs4 (c x y : Bool) : (bif c then some [A.v (Value.bool x)] else some [A.v (Value.bool y)]) = some [A.v (Value.bool (bif c then x else y))] := by cases c <;> rfl
theorem Zd {D k : Nat} (h : k + 1 <= D) : ∃ d, D = d + 1 /\ k <= d := ⟨D - 1, by omega, by omega⟩
theorem Zt {n : Int} (h1 : -9223372036854775808 <= n) (h2 : n <= 9223372036854775807) : IntKind.i64.wrap n = n := IntWalk.i64_in _ (by exact ⟨h1, h2⟩)
theorem Zn {n : Nat} (h : n <= 9223372036854775806) : IntKind.i64.wrap ((n : Int) + 1) = ((n + 1 : Nat) : Int) := by
 rw [Zt (by omega) (by omega)]; rfl
def inB (n lo hi : Int) : Bool := decide (lo <= n) && decide (n <= hi)
theorem Y40 {D : Nat} (hD : 1 <= D) (n lo hi : Int) : den pr D V5 [.n n, .n lo, .n hi] = some [.q (inB n lo hi)] := by
 obtain ⟨D, rfl, hd⟩ := Zd hD
 rw [Zye]
 simp only [Zfo, go_sem, inB]
def Ws (a b : Val) : Bool := bif !decide (a.k = b.k) then decide (a.k < b.k) else bif !decide (a.n = b.n) then decide (a.n < b.n) else Wh a.t.toList b.t.toList
theorem Zn2 {D : Nat} (hD : 1 <= D) (a b : Val) : den pr D Z19 [.agg a.c, .agg b.c] = some [.q (Ws a b)] := by
 obtain ⟨D, rfl, hd⟩ := Zd hD
 rw [Zg6]
 simp only [Z6c, go_sem, Zs4, Ws]
theorem Za6 {D : Nat} (hD : 1 <= D) (a b : Val) : den pr D Z18 [.agg a.c, .agg b.c] = some [.q (Ws a b)] := by
 obtain ⟨D, rfl, hd⟩ := Zd hD
 rw [Zgh]
 simp only [Z6a, go_sem, Zs4, Ws]
def Y4d (c : UInt8) : Bool := (decide ((c.toNat : Int) < 97) || decide (122 < (c.toNat : Int))) && (decide ((c.toNat : Int) < 48) || decide (57 < (c.toNat : Int))) && !decide ((c.toNat : Int) = 45)
def okL (l : List UInt8) : Bool := l.all fun c => !Y4d c
theorem Zqs : ∀ (l : List UInt8) (i : Nat), (Zz (fun _ (_ : Unit) c => if Y4d c then .inr () else .inl ()) i () l : Unit ⊕ Unit) = if okL l then .inl () else .inr ()
 | [], i => rfl
 | c :: l, i => by
   unfold Zz
   have : okL (c :: l) = (!Y4d c && okL l) := rfl
   rw [this]
   cases Y4d c with
   | true => rfl
   | false => simp only [eD, if_false, fQ, eN]; exact Zqs l (i + 1)
def Z0i (v : Val) : Bool :=
 bif decide (v.k = 0) then decide (v.k = 0) && (decide (v.n = 0) && decide (v.t = ⟨#[]⟩))
 else bif decide (v.k = 1) then inB v.n (-999) 999 && decide (v.t = ⟨#[]⟩)
 else bif decide (v.k = 2) then bif okL v.t.data.toList then decide (v.n = 0) && decide ((v.t.size : Int) <= 4) else false
 else false
theorem Y39 (E : Env) (k n : Int) (t : ByteArray) (ht : t.size <= big) :
 Vs (Zc (Zg E Z6j) [1, 26, 27] rounds ⟨upd (upd (upd (fun _ => .bad) 1 (.ptr 0 0 0)) 26 (.n t.size)) 27 (.n (0 : Nat)), upd (fun _ => none) 0 (some ⟨Z2, [[.n k, .n n, .s t]], true, true⟩), 1, 0⟩) Unit Unit (if okL t.data.toList then .inl () else .inr ())
  (fun _ o => ∃ U', o = .exit 1 U' /\ U'.s 1 = .ptr 0 0 0 /\ U'.h 0 = some ⟨Z2, [[.n k, .n n, .s t]], true, true⟩) (fun _ o => ∃ U', o = .ret U' /\ U'.s 2 = .q false) := by
 rw [<- Zqs _ 0]
 have j1 : t.size = t.data.toList.length := Z92 t
 refine Zw t.data.toList (fun i (_ : Unit) => ⟨upd (upd (upd (fun _ => .bad) 1 (.ptr 0 0 0)) 26 (.n t.size)) 27 (.n i), upd (fun _ => none) 0 (some ⟨Z2, [[.n k, .n n, .s t]], true, true⟩), 1, 0⟩) _ (fun _ _ => True) _ _ () trivial (by rw [<- j1]; exact ht) (fun i _ c K hc hlt _ => ?_) (fun _ K _ => ?_)
 . have j0 : i < t.size := by omega
   have hw := Zn (n := i) (by unfold big at ht; omega)
   simp only [Zc, Za3, Z34, go_sem, hc, j0, hw]
   have hb : Y4d c = ((decide ((c.toNat : Int) < 97) || decide (122 < (c.toNat : Int))) && (decide ((c.toNat : Int) < 48) || decide (57 < (c.toNat : Int))) && !decide ((c.toNat : Int) = 45)) := rfl
   rw [<- hb]
   cases Y4d c with
   | true => exact ⟨_, rfl, _, rfl, rfl⟩
   | false => exact rfl
 . have hi : ¬ t.data.toList.length < t.size := by omega
   simp only [Zc, Za3, Z34, go_sem, hi]
   exact ⟨_, rfl, _, rfl, rfl, rfl⟩
theorem Zfp {D : Nat} (hD : 2 <= D) (v : Val) (ht : v.t.size <= big) : den pr D V8 [.agg v.c] = some [.q (Z0i v)] := by
 obtain ⟨D, rfl, hd⟩ := Zd hD
 obtain ⟨k, n, t⟩ := v
 rw [Zms]
 simp only at ht
 obtain ⟨out, lo, lp⟩ := Y39 (aH D) k n t ht
 rw [show ((0 : Nat) : Int) = 0 from rfl] at lo
 simp only [Z95, go_sem, Y40 hd, Z0i]
 cases h0 : decide (k = 0) with
 | true => simp only [go_sem]
 | false =>
   cases h1 : decide (k = 1) with
   | true => simp only [go_sem]
   | false =>
     cases h2 : decide (k = 2) with
     | false => simp only [go_sem]
     | true =>
       cases hl : okL t.data.toList with
       | true =>
         rw [hl] at lp
         obtain ⟨U', rfl, l2, l3⟩ := lp
         simp only [go_sem, lo, l2, l3]
       | false =>
         rw [hl] at lp
         obtain ⟨U', rfl, l2⟩ := lp
         simp only [go_sem, lo, l2]
theorem Z8i {D : Nat} (hD : 1 <= D) (n : Int) : den pr D Z1p [.n n] = some [.q (inB n (-999) 999)] := by
 obtain ⟨D, rfl, hd⟩ := Zd hD
 rw [Zm8]
 simp only [Z8y, go_sem, inB]
theorem Zvp (E : Env) (t : ByteArray) (ht : t.size <= big) :
 Vs (Zc (Zg E Z5c) [0, 3] rounds ⟨upd (upd (fun _ => .bad) 0 (.s t)) 3 (.n (0 : Nat)), fun _ => none, 0, 0⟩) Unit Unit (if okL t.data.toList then .inl () else .inr ())
  (fun _ o => ∃ U', o = .exit 0 U' /\ U'.s 0 = .s t) (fun _ o => ∃ U', o = .ret U' /\ U'.s 2 = .q false) := by
 rw [<- Zqs _ 0]
 have j1 : t.size = t.data.toList.length := Z92 t
 refine Zw t.data.toList (fun i (_ : Unit) => ⟨upd (upd (fun _ => .bad) 0 (.s t)) 3 (.n i), fun _ => none, 0, 0⟩) _ (fun _ _ => True) _ _ () trivial (by rw [<- j1]; exact ht) (fun i _ c K hc hlt _ => ?_) (fun _ K _ => ?_)
 . have j0 : i < t.size := by omega
   have hw := Zn (n := i) (by unfold big at ht; omega)
   simp only [Zc, Z8p, Z26, go_sem, hc, j0, hw]
   have hb : Y4d c = ((decide ((c.toNat : Int) < 97) || decide (122 < (c.toNat : Int))) && (decide ((c.toNat : Int) < 48) || decide (57 < (c.toNat : Int))) && !decide ((c.toNat : Int) = 45)) := rfl
   rw [<- hb]
   cases Y4d c with
   | true => exact ⟨_, rfl, _, rfl, rfl⟩
   | false => exact rfl
 . have hi : ¬ t.data.toList.length < t.size := by omega
   simp only [Zc, Z8p, Z26, go_sem, hi]
   exact ⟨_, rfl, _, rfl, rfl⟩
theorem Zki {D : Nat} (hD : 1 <= D) (t : ByteArray) (ht : t.size <= big) : den pr D Z4e [.s t] = some [.q (bif okL t.data.toList then decide ((t.size : Int) <= 4) else false)] := by
 obtain ⟨D, rfl, hd⟩ := Zd hD
 rw [Zkf]
 obtain ⟨out, lo, lp⟩ := Zvp (aH D) t ht
 rw [show ((0 : Nat) : Int) = 0 from rfl] at lo
 simp only [Z7m, go_sem]
 cases hl : okL t.data.toList with
 | true =>
   rw [hl] at lp
   obtain ⟨U', rfl, l2⟩ := lp
   simp only [go_sem, lo, l2]
 | false =>
   rw [hl] at lp
   obtain ⟨U', rfl, l2⟩ := lp
   simp only [go_sem, lo, l2]
theorem Z3f {D : Nat} (hD : 2 <= D) (v : Val) (ht : v.t.size <= big) : den pr D Wl [.agg v.c] = some [.q (Z0i v)] := by
 obtain ⟨D, rfl, hd⟩ := Zd hD
 obtain ⟨k, n, t⟩ := v
 rw [Znu]
 simp only at ht
 simp only [Z9g, go_sem, Z8i hd, Zki hd t ht, Z0i]
 cases h0 : decide (k = 0) <;> cases h1 : decide (k = 1) <;> cases h2 : decide (k = 2) <;> simp only [go_sem]
 . cases okL t.data.toList <;> simp only [go_sem]
 all_goals first | rfl | (rw [Bool.and_comm])
theorem Zd5 : ∀ l, Wh l l = false
 | [] => rfl
 | a :: l => by
   have h : decide (a < a) = false := by simp
   have h2 : Wh (a :: l) (a :: l) = (decide (a < a) || (a == a && Wh l l)) := rfl
   rw [h2, h, Zd5 l]; simp
theorem Zd9 (a : Val) : Ws a a = false := by
 unfold Ws
 rw [Zd5]
 simp
theorem Zhh (a b : Val) : (decide (a.k = b.k) && (decide (a.n = b.n) && decide (a.t = b.t))) = decide (a = b) := by
 obtain ⟨k, n, t⟩ := a
 obtain ⟨k', n', t'⟩ := b
 simp only [Val.mk.injEq]
 by_cases h1 : k = k' <;> by_cases h2 : n = n' <;> by_cases h3 : t = t' <;> simp [h1, h2, h3]
def Zfe (a b : Ent) : Bool := bif !decide (a.v = b.v) then Ws a.v b.v else decide (a.id < b.id)
theorem Zu {J C : Type} {f : J -> C} {l : List J} {i : Nat} {x : J} (h : l[i]? = some x) : (l.map f)[i]? = some (f x) := by rw [eJ, h]; rfl
theorem Zrh {i : Nat} (h : i < 2 ^ 62) : IntKind.i64.wrap (((i + 1 : Nat) : Int) - 1) = (i : Int) := by rw [Zt (by omega) (by omega)]; omega
structure Small (es : List Ent) : Prop where
 len : es.length <= big
 txt : ∀ e ∈ es, e.v.t.size <= big
def cap : Int := 1048576
theorem Zs2 {J : Type} : ∀ (es : List J) (i : Nat), Zz (fun _ (_ : Unit) _ => (.inl () : Unit ⊕ Unit)) i () es = .inl ()
 | [], _ => rfl
 | e :: es, i => by unfold Zz; exact Zs2 es (i + 1)
theorem Z6u {J : Type} (f : J -> List A) (h : ∀ x, Zr7 (f x) = false) : ∀ l : List J, Z0n (l.map f) = false
 | [] => rfl
 | x :: l => by
   have : Z0n ((x :: l).map f) = (Zr7 (f x) || Z0n (l.map f)) := rfl
   rw [this, h, Z6u f h l]
   rfl
theorem Za {J C : Type} (f : J -> C) (l : List J) : (l.map f).take l.length = l.map f := dN (by simp)
theorem Z90 {n b : Nat} (hb : b < n) (h : Hp) (x : Option Blk) : low n (upd h b x) = upd (low n h) b x := by
 funext i
 simp only [low, Z6]
 by_cases h1 : i = b
 . subst h1; simp [hb]
 . simp [h1]
theorem Y8p (n : Nat) (h : Hp) : low n (low n h) = low n h := by
 funext i
 simp only [low]
 split <;> simp_all
theorem Zgs {n b : Nat} (hb : b < n) (h : Hp) : low n h b = h b := by simp [low, hb]
theorem Wx {J : Type} (f : Nat -> J) (k : Nat) (x y : J) : upd (upd f k x) k y = upd f k y := by
 funext i
 simp only [Z6]
 split <;> rfl
abbrev Z1m (x : Int) : List A := [.n x]
theorem set_set {J : Type} (l : List J) (i : Nat) (a b : J) : (l.set i a).set i b = l.set i b := List.set_set ..
structure PlCaps (cs : List A) : Prop where
 nm : Z76 cs = []
 rn : ∀ base ns, Zk5 base ns cs = cs
 ac : Wt cs = true
 cl : ∀ h, Z6t h cs = some cs
 np : ∀ h, Z1c h cs = []
 cv : ∀ h, Z1a h cs = some cs
 nv : ∀ h, Xt h cs = []
theorem Zhd : PlCaps [] := ⟨rfl, fun _ _ => rfl, rfl, fun _ => rfl, fun _ => rfl, fun _ => rfl, fun _ => rfl⟩
theorem Zab {r : List A} {j : Nat} {cs : List A} (h : PlCaps cs) : PlCaps (.pl r j :: cs) where
 nm := by simp only [Z76, Yq, h.nm, dF]
 rn base ns := by simp only [Zk5, Zl9, h.rn]
 ac := by simp only [Wt, Zoq, h.ac, Bool.and_true]
 cl hp := by simp only [Z6t, Z9h, bnd, h.cl]
 np hp := by simp only [Z1c, Z4l, h.np, dF]
 cv hp := by simp only [Z1a, Zbd, bnd, h.cv]
 nv hp := by simp only [Xt, Zbt, Xr, h.nv, dF]
theorem Vr (es : List Int) : Z0n (es.map Z1m) = false := Z6u _ (fun _ => rfl) es
def Z46 {J : Type} (i : Nat) (l : List J) : List J := l.take i ++ l.drop (i + 1)
theorem Z21 {J : Type} {i : Nat} {l : List J} (h : i < l.length) : (Z46 i l).length = l.length - 1 := by
 unfold Z46
 simp
 omega
theorem Zt3 {J C : Type} (f : J -> C) (i : Nat) (l : List J) : Z46 i (l.map f) = (Z46 i l).map f := by simp [Z46]
structure ColV where
 nm : ByteArray
 k : Int
 need : Bool
 once : Bool
 df : Val
 deriving DecidableEq
abbrev ColV.c (c : ColV) : List A := [.s c.nm, .n c.k, .q c.need, .q c.once, .n c.df.k, .n c.df.n, .s c.df.t]
structure CondV where
 nm : ByteArray
 how : Int
 v : Val
 deriving DecidableEq
abbrev CondV.c (c : CondV) : List A := [.s c.nm, .n c.how, .n c.v.k, .n c.v.n, .s c.v.t]
abbrev Ycd : List A := [.s ⟨#[]⟩, .n 0, .q false, .q false, .n 0, .n 0, .s ⟨#[]⟩]
def Y4b (c : UInt8) : Bool := decide ((c.toNat : Int) < 97) || decide (122 < (c.toNat : Int))
def nmL (l : List UInt8) : Bool := l.all fun c => !Y4b c
theorem Zr2 : ∀ (l : List UInt8) (i : Nat), (Zz (fun _ (_ : Unit) c => if Y4b c then .inr () else .inl ()) i () l : Unit ⊕ Unit) = if nmL l then .inl () else .inr ()
 | [], i => rfl
 | c :: l, i => by
   unfold Zz
   have : nmL (c :: l) = (!Y4b c && nmL l) := rfl
   rw [this]
   cases Y4b c with
   | true => rfl
   | false => simp only [eD, if_false, fQ, eN]; exact Zr2 l (i + 1)
def Y3w (t : ByteArray) : Bool := bif nmL t.data.toList then inB t.size 1 3 else false
theorem Zzc (E : Env) (t : ByteArray) (ht : t.size <= big) :
 Vs (Zc (Zg E Z5f) [0, 5, 6] rounds ⟨upd (upd (upd (fun _ => .bad) 0 (.s t)) 5 (.n t.size)) 6 (.n (0 : Nat)), fun _ => none, 0, 0⟩) Unit Unit (if nmL t.data.toList then .inl () else .inr ())
  (fun _ o => ∃ U', o = .exit 0 U' /\ U'.s 0 = .s t) (fun _ o => ∃ U', o = .ret U' /\ U'.s 2 = .q false) := by
 rw [<- Zr2 _ 0]
 have j1 : t.size = t.data.toList.length := Z92 t
 refine Zw t.data.toList (fun i (_ : Unit) => ⟨upd (upd (upd (fun _ => .bad) 0 (.s t)) 5 (.n t.size)) 6 (.n i), fun _ => none, 0, 0⟩) _ (fun _ _ => True) _ _ () trivial (by rw [<- j1]; exact ht) (fun i _ c K hc hlt _ => ?_) (fun _ K _ => ?_)
 . have j0 : i < t.size := by omega
   have hw := Zn (n := i) (by unfold big at ht; omega)
   have hb : (decide ((c.toNat : Int) < 97) || decide (122 < (c.toNat : Int))) = Y4b c := rfl
   simp only [Zc, Z8s, Z2d, go_sem, hc, j0, hw, hb]
   cases Y4b c with
   | true => exact ⟨_, rfl, _, rfl, rfl⟩
   | false => exact rfl
 . have hi : ¬ t.data.toList.length < t.size := by omega
   simp only [Zc, Z8s, Z2d, go_sem, hi]
   exact ⟨_, rfl, _, rfl, rfl⟩
theorem Y1i {D : Nat} (hD : 2 <= D) (t : ByteArray) (ht : t.size <= big) : den pr D Z4w [.s t] = some [.q (Y3w t)] := by
 obtain ⟨D, rfl, hd⟩ := Zd hD
 rw [Zjv]
 obtain ⟨out, lo, lp⟩ := Zzc (aH D) t ht
 rw [show ((0 : Nat) : Int) = 0 from rfl] at lo
 have h1 := Y40 hd
 unfold Y3w
 cases hl : nmL t.data.toList with
 | true =>
   rw [hl] at lp
   obtain ⟨U', rfl, l2⟩ := lp
   simp only [Z4c, go_sem, lo, l2, h1]
 | false =>
   rw [hl] at lp
   obtain ⟨U', rfl, l2⟩ := lp
   simp only [Z4c, go_sem, lo, l2]
theorem Zw3 (E : Env) (t : ByteArray) (ht : t.size <= big) :
 Vs (Zc (Zg E Z5g) [0, 3] rounds ⟨upd (upd (fun _ => .bad) 0 (.s t)) 3 (.n (0 : Nat)), fun _ => none, 0, 0⟩) Unit Unit (if nmL t.data.toList then .inl () else .inr ())
  (fun _ o => ∃ U', o = .exit 0 U' /\ U'.s 0 = .s t) (fun _ o => ∃ U', o = .ret U' /\ U'.s 2 = .q false) := by
 rw [<- Zr2 _ 0]
 have j1 : t.size = t.data.toList.length := Z92 t
 refine Zw t.data.toList (fun i (_ : Unit) => ⟨upd (upd (fun _ => .bad) 0 (.s t)) 3 (.n i), fun _ => none, 0, 0⟩) _ (fun _ _ => True) _ _ () trivial (by rw [<- j1]; exact ht) (fun i _ c K hc hlt _ => ?_) (fun _ K _ => ?_)
 . have j0 : i < t.size := by omega
   have hw := Zn (n := i) (by unfold big at ht; omega)
   have hb : (decide ((c.toNat : Int) < 97) || decide (122 < (c.toNat : Int))) = Y4b c := rfl
   simp only [Zc, Z8o, Z1w, go_sem, hc, j0, hw, hb]
   cases Y4b c with
   | true => exact ⟨_, rfl, _, rfl, rfl⟩
   | false => exact rfl
 . have hi : ¬ t.data.toList.length < t.size := by omega
   simp only [Zc, Z8o, Z1w, go_sem, hi]
   exact ⟨_, rfl, _, rfl, rfl⟩
theorem Y22 {D : Nat} (hD : 1 <= D) (t : ByteArray) (ht : t.size <= big) : den pr D Z4p [.s t] = some [.q (Y3w t)] := by
 obtain ⟨D, rfl, hd⟩ := Zd hD
 rw [Zkl]
 obtain ⟨out, lo, lp⟩ := Zw3 (aH D) t ht
 rw [show ((0 : Nat) : Int) = 0 from rfl] at lo
 unfold Y3w
 cases hl : nmL t.data.toList with
 | true =>
   rw [hl] at lp
   obtain ⟨U', rfl, l2⟩ := lp
   simp only [Z4n, go_sem, lo, l2, inB]
 | false =>
   rw [hl] at lp
   obtain ⟨U', rfl, l2⟩ := lp
   simp only [Z4n, go_sem, lo, l2]
theorem pf (P : Prop) : P = True \/ P = False := by
 by_cases h : P
 . exact .inl (eq_true h)
 . exact .inr (eq_false h)
def Zjg (v : Val) (k : Int) : Bool := decide (v.k = 0) || decide (v.k = k)
def Z6w (c : ColV) : Bool := Y3w c.nm && inB c.k 1 2 && Z0i c.df && Zjg c.df c.k && (!c.once || decide (c.df.k = 0))
theorem Y4t {D : Nat} (hD : 1 <= D) (v : Val) (k : Int) : den pr D Zz6 [.agg v.c, .n k] = some [.q (Zjg v k)] := by
 obtain ⟨D, rfl, hd⟩ := Zd hD
 rw [Yf4]
 simp only [Y5r, go_sem, Zjg]
theorem Y5x {D : Nat} (hD : 3 <= D) (c : ColV) (h1 : c.nm.size <= big) (h2 : c.df.t.size <= big) : den pr D Z67 [.agg c.c] = some [.q (Z6w c)] := by
 obtain ⟨D, rfl, hd⟩ := Zd hD
 rw [Zo9]
 have e1 := Y1i (show 2 <= D by omega) c.nm h1
 have e2 := Y40 (show 1 <= D by omega) c.k 1 2
 have e3 := Zfp (show 2 <= D by omega) c.df h2
 have e4 := Y4t (show 1 <= D by omega) c.df c.k
 unfold Z6w
 generalize Y3w c.nm = p1 at *
 generalize inB c.k 1 2 = p2 at *
 generalize Z0i c.df = p3 at *
 generalize Zjg c.df c.k = p4 at *
 cases p1 <;> cases p2 <;> cases p3 <;> cases p4 <;> simp only [Z97, go_sem, e1, e2, e3, e4]
theorem Y6v (k : Int) : (decide (k = 1) || decide (k = 2)) = inB k 1 2 := by
 unfold inB
 by_cases h1 : k = 1
 . simp [h1]
 . by_cases h2 : k = 2
   . simp [h2]
   . simp only [h1, h2, decide_false, Bool.or_self]
     symm
     rw [Bool.and_eq_false_iff, decide_eq_false_iff_not, decide_eq_false_iff_not]
     omega
theorem Zp2 {D : Nat} (hD : 3 <= D) (c : ColV) (h1 : c.nm.size <= big) (h2 : c.df.t.size <= big) : den pr D Z5v [.agg c.c] = some [.q (Z6w c)] := by
 obtain ⟨D, rfl, hd⟩ := Zd hD
 rw [Znw]
 have e1 := Y22 (show 1 <= D by omega) c.nm h1
 have e3 := Z3f (show 2 <= D by omega) c.df h2
 have e4 := Y6v c.k
 have e5 : (decide (c.df.k = 0) || decide (c.df.k = c.k)) = Zjg c.df c.k := rfl
 unfold Z6w
 rw [<- e4, <- e5]
 generalize Y3w c.nm = p1 at *
 generalize Z0i c.df = p3 at *
 cases p1 <;> cases p3 <;> simp only [Z98, go_sem, e1, e3]
 rcases pf (c.k = 1) with q1 | q1 <;> rcases pf (c.k = 2) with q2 | q2 <;> rcases pf (c.df.k = 0) with q3 | q3 <;> rcases pf (c.df.k = c.k) with q4 | q4 <;> simp only [q1, q2, q3, q4, go_sem]
structure SmallC (cs : List ColV) : Prop where
 len : cs.length <= big
 txt : ∀ c ∈ cs, c.nm.size <= big /\ c.df.t.size <= big
def nmG (nm : ByteArray) : Nat -> Unit -> ColV -> Unit ⊕ Nat := fun i _ x => bif decide (x.nm = nm) then .inr i else .inl ()
def Z3w (nm : ByteArray) (cs : List ColV) : Option Nat := match Zz (nmG nm) 0 () cs with
 | .inl _ => none
 | .inr i => some i
def nmI (nm : ByteArray) (cs : List ColV) : Int := match Z3w nm cs with
 | none => -1
 | some i => i
theorem Ya0 (nm : ByteArray) : ∀ (cs : List ColV) (i k : Nat), Zz (nmG nm) i () cs = .inr k -> i <= k /\ k < i + cs.length
 | [], i, k, h => nomatch h
 | x :: cs, i, k, h => by
   unfold Zz nmG at h
   by_cases hx : x.nm = nm
   . simp [hx] at h
     subst h
     simp
   . simp only [hx, decide_false, cond_false] at h
     have := Ya0 nm cs (i + 1) k h
     simp only [eB]
     omega
theorem Z0q {nm : ByteArray} {cs : List ColV} {k : Nat} (h : Z3w nm cs = some k) : k < cs.length := by
 unfold Z3w at h
 cases hr : Zz (nmG nm) 0 () cs with
 | inl _ => rw [hr] at h; cases h
 | inr i =>
   rw [hr] at h
   cases h
   have := Ya0 nm cs 0 k hr
   omega
theorem Zx0 {D : Nat} (hD : 1 <= D) (c : ColV) (nm : ByteArray) : den pr D Vd [.agg c.c, .pl [.s nm] 0] = some [.q (decide (c.nm = nm))] := by
 obtain ⟨D, rfl, hd⟩ := Zd hD
 rw [Zfy]
 simp only [Z69, go_sem]
theorem Zo8 {D : Nat} (hD : 1 <= D) (nm : ByteArray) (cs : List ColV) (hl : cs.length <= big) :
 Vs (Zc (Zg (aH D) Zq1) [0, 1, 7, 8] rounds ⟨upd (upd (upd (upd (fun _ => .bad) 0 (.lit Z0 (cs.map ColV.c))) 1 (.fn Vd [.pl [.s nm] 0])) 7 (.n cs.length)) 8 (.n (0 : Nat)), fun _ => none, 0, 0⟩) Unit Nat (Zz (nmG nm) 0 () cs)
  (fun _ o => ∃ U', o = .exit 0 U') (fun i o => ∃ U', o = .ret U' /\ U'.s 4 = .n i) := by
 refine Zw cs (fun i (_ : Unit) => ⟨upd (upd (upd (upd (fun _ => .bad) 0 (.lit Z0 (cs.map ColV.c))) 1 (.fn Vd [.pl [.s nm] 0])) 7 (.n cs.length)) 8 (.n i), fun _ => none, 0, 0⟩) _ (fun _ _ => True) _ _ () trivial hl (fun i _ x K hc hlt hi => ?_) (fun _ K _ => ?_)
 . have hr := Zu (f := ColV.c) hc
   have hw := Zn (n := i) (by unfold big at hl; omega)
   have hp := Zx0 hD x nm
   simp only [Zc, Zwv, Zii, go_sem, hr, hlt, hw, hp, nmG]
   generalize decide (x.nm = nm) = q
   cases q with
   | true => simp only [go_sem]; exact ⟨_, rfl, _, rfl, rfl⟩
   | false => simp only [go_sem]
 . have hi : ¬ cs.length < cs.length := by omega
   simp only [Zc, Zwv, Zii, go_sem, hi]
   exact ⟨_, rfl, _, rfl⟩
theorem Z6d {D : Nat} (hD : 3 <= D) (nm : ByteArray) (cs : List ColV) (hl : cs.length <= big) : den pr D Wb [.lit Z0 (cs.map ColV.c), .s nm] = some [.n (nmI nm cs)] := by
 obtain ⟨D, rfl, hd⟩ := Zd hD
 obtain ⟨D, rfl, hd⟩ := Zd hd
 have h1 : den pr (D + 1) Y28 [.lit Z0 (cs.map ColV.c), .fn Vd [.pl [.s nm] 0]] = some [.n (nmI nm cs)] := by
  rw [Ye8]
  obtain ⟨out, lo, lp⟩ := Zo8 (show 1 <= D by omega) nm cs hl
  rw [show ((0 : Nat) : Int) = 0 from rfl] at lo
  unfold nmI Z3w
  cases hr : Zz (nmG nm) 0 () cs with
  | inl _ =>
    rw [hr] at lp
    obtain ⟨U', rfl⟩ := lp
    simp only [Y30, go_sem, dL, lo]
  | inr i =>
    rw [hr] at lp
    obtain ⟨U', rfl, l2⟩ := lp
    simp only [Y30, go_sem, dL, lo, l2]
 rw [Zlk]
 simp only [Z8b, go_sem, h1]
theorem Y8d {E : Env} (nm : ByteArray) (cs : List ColV) (hl : cs.length <= big) :
 Vs (Zc (Zg E Z7b) [0, 1, 5] rounds ⟨upd (upd (upd (fun _ => .bad) 0 (.lit Z0 (cs.map ColV.c))) 1 (.s nm)) 5 (.n (0 : Nat)), fun _ => none, 0, 0⟩) Unit Nat (Zz (nmG nm) 0 () cs)
  (fun _ o => ∃ U', o = .exit 0 U') (fun i o => ∃ U', o = .ret U' /\ U'.s 4 = .n i) := by
 refine Zw cs (fun i (_ : Unit) => ⟨upd (upd (upd (fun _ => .bad) 0 (.lit Z0 (cs.map ColV.c))) 1 (.s nm)) 5 (.n i), fun _ => none, 0, 0⟩) _ (fun _ _ => True) _ _ () trivial hl (fun i _ x K hc hlt hi => ?_) (fun _ K _ => ?_)
 . have hr := Zu (f := ColV.c) hc
   have hw := Zn (n := i) (by unfold big at hl; omega)
   simp only [Zc, Zbk, Z4t, go_sem, dL, hr, hlt, hw, nmG]
   rcases pf (x.nm = nm) with q | q
   . simp only [go_sem, q]; exact ⟨_, rfl, _, rfl, rfl⟩
   . simp only [go_sem, q]
 . have hi : ¬ cs.length < cs.length := by omega
   simp only [Zc, Zbk, Z4t, go_sem, dL, hi]
   exact ⟨_, rfl, _, rfl⟩
theorem Zcy {D : Nat} (hD : 1 <= D) (nm : ByteArray) (cs : List ColV) (hl : cs.length <= big) : den pr D Xe [.lit Z0 (cs.map ColV.c), .s nm] = some [.n (nmI nm cs)] := by
 obtain ⟨D, rfl, hd⟩ := Zd hD
 rw [Zqw]
 obtain ⟨out, lo, lp⟩ := Y8d (E := (aH D)) nm cs hl
 rw [show ((0 : Nat) : Int) = 0 from rfl] at lo
 unfold nmI Z3w
 cases hr : Zz (nmG nm) 0 () cs with
 | inl _ =>
   rw [hr] at lp
   obtain ⟨U', rfl⟩ := lp
   simp only [Z7f, go_sem, lo]
 | inr i =>
   rw [hr] at lp
   obtain ⟨U', rfl, l2⟩ := lp
   simp only [Z7f, go_sem, lo, l2]
def shG (cs : List ColV) : Nat -> Unit -> ColV -> Unit ⊕ Unit := fun i _ c => bif Z6w c && decide (nmI c.nm cs = i) then .inl () else .inr ()
def Zm (cs : List ColV) : Bool := (match Zz (shG cs) 0 () cs with | .inl _ => true | .inr _ => false) && inB cs.length 1 5
theorem Ztt {D : Nat} (hD : 3 <= D) (cs : List ColV) (hs : SmallC cs) :
 Vs (Zc (Zg (aH D) Z3y) [0, 5, 6, 7] rounds ⟨upd (upd (upd (upd (fun _ => .bad) 0 (.lit Z0 (cs.map ColV.c))) 5 (.lit Z0 (cs.map ColV.c))) 6 (.n cs.length)) 7 (.n (0 : Nat)), fun _ => none, 0, 0⟩) Unit Unit (Zz (shG cs) 0 () cs)
  (fun _ o => ∃ U', o = .exit 0 U' /\ U'.s 0 = .lit Z0 (cs.map ColV.c)) (fun _ o => ∃ U', o = .ret U' /\ U'.s 2 = .q false) := by
 have j0 := hs.len
 refine Zw cs (fun i (_ : Unit) => ⟨upd (upd (upd (upd (fun _ => .bad) 0 (.lit Z0 (cs.map ColV.c))) 5 (.lit Z0 (cs.map ColV.c))) 6 (.n cs.length)) 7 (.n i), fun _ => none, 0, 0⟩) _ (fun _ _ => True) _ _ () trivial hs.len (fun i _ e K hc hlt hi => ?_) (fun _ K _ => ?_)
 . have hr := Zu (f := ColV.c) hc
   have hw := Zn (n := i) (by unfold big at j0; omega)
   have ht := hs.txt e (dU hc)
   have h1 := Y5x hD e ht.1 ht.2
   have h2 := Z6d hD e.nm cs hs.len
   simp only [Zc, Z87, Z1j, go_sem, hr, hlt, hw, h1, h2, shG]
   generalize Z6w e = q1
   rcases pf (nmI e.nm cs = (i : Int)) with q2 | q2 <;> cases q1 <;> simp only [go_sem, q2] <;> exact ⟨_, rfl, _, rfl, rfl⟩
 . have hi : ¬ cs.length < cs.length := by omega
   simp only [Zc, Z87, Z1j, go_sem, hi]
   exact ⟨_, rfl, _, rfl, rfl⟩
theorem Z8f {D : Nat} (hD : 4 <= D) (cs : List ColV) (hs : SmallC cs) : den pr D Wj [.lit Z0 (cs.map ColV.c)] = some [.q (Zm cs)] := by
 obtain ⟨D, rfl, hd⟩ := Zd hD
 rw [Zga]
 obtain ⟨out, lo, lp⟩ := Ztt hd cs hs
 rw [show ((0 : Nat) : Int) = 0 from rfl] at lo
 have h1 := Y40 (show 1 <= D by omega) cs.length 1 5
 unfold Zm
 cases hr : Zz (shG cs) 0 () cs with
 | inl _ =>
   rw [hr] at lp
   obtain ⟨U', rfl, l2⟩ := lp
   simp only [Z33, go_sem, dL, lo, l2, h1]
 | inr _ =>
   rw [hr] at lp
   obtain ⟨U', rfl, l2⟩ := lp
   simp only [Z33, go_sem, dL, lo, l2]
theorem Ze8 {D : Nat} (hD : 3 <= D) (cs : List ColV) (hs : SmallC cs) :
 Vs (Zc (Zg (aH D) Z44) [0, 3] rounds ⟨upd (upd (fun _ => .bad) 0 (.lit Z0 (cs.map ColV.c))) 3 (.n (0 : Nat)), fun _ => none, 0, 0⟩) Unit Unit (Zz (shG cs) 0 () cs)
  (fun _ o => ∃ U', o = .exit 0 U' /\ U'.s 0 = .lit Z0 (cs.map ColV.c)) (fun _ o => ∃ U', o = .ret U' /\ U'.s 2 = .q false) := by
 have j0 := hs.len
 refine Zw cs (fun i (_ : Unit) => ⟨upd (upd (fun _ => .bad) 0 (.lit Z0 (cs.map ColV.c))) 3 (.n i), fun _ => none, 0, 0⟩) _ (fun _ _ => True) _ _ () trivial hs.len (fun i _ e K hc hlt hi => ?_) (fun _ K _ => ?_)
 . have hr := Zu (f := ColV.c) hc
   have hw := Zn (n := i) (by unfold big at j0; omega)
   have ht := hs.txt e (dU hc)
   have h1 := Zp2 hD e ht.1 ht.2
   have h2 := Zcy (show 1 <= D by omega) e.nm cs hs.len
   simp only [Zc, Z84, Z1h, go_sem, dL, hr, hlt, hw, h1, h2, shG]
   generalize Z6w e = q1
   rcases pf (nmI e.nm cs = (i : Int)) with q2 | q2 <;> cases q1 <;> simp only [go_sem, q2] <;> exact ⟨_, rfl, _, rfl, rfl⟩
 . have hi : ¬ cs.length < cs.length := by omega
   simp only [Zc, Z84, Z1h, go_sem, dL, hi]
   exact ⟨_, rfl, _, rfl, rfl⟩
theorem Z0d {D : Nat} (hD : 4 <= D) (cs : List ColV) (hs : SmallC cs) : den pr D Xu [.lit Z0 (cs.map ColV.c)] = some [.q (Zm cs)] := by
 obtain ⟨D, rfl, hd⟩ := Zd hD
 rw [Zg1]
 obtain ⟨out, lo, lp⟩ := Ze8 hd cs hs
 rw [show ((0 : Nat) : Int) = 0 from rfl] at lo
 unfold Zm inB
 cases hr : Zz (shG cs) 0 () cs with
 | inl _ =>
   rw [hr] at lp
   obtain ⟨U', rfl, l2⟩ := lp
   simp only [Z3e, go_sem, dL, lo, l2]
 | inr _ =>
   rw [hr] at lp
   obtain ⟨U', rfl, l2⟩ := lp
   simp only [Z3e, go_sem, lo, l2]
theorem Z2o (w : Bool) (a : A) : Z03 w (.ifg false a) = some false := by
 unfold Z03
 split <;> simp_all
def Yce (col : ColV) (c : CondV) : Bool := Z0i c.v && inB c.how 1 3 && (decide (c.v.k = col.k) || (decide (c.how = 1) && decide (c.v.k = 0)))
def Z1v (cs : List ColV) (c : CondV) : Bool := match Z3w c.nm cs with
 | none => false
 | some i => match cs[i]? with
   | none => false
   | some col => Yce col c
def Wo (cs : List ColV) (c : CondV) : Bool := Zm cs && Z1v cs c
set_option maxHeartbeats 2000000 in
theorem Zgy {D : Nat} (hD : 4 <= D) (cs : List ColV) (c : CondV) (hl : cs.length <= big) (hv : c.v.t.size <= big) : den pr D Zxp [.lit Z0 (cs.map ColV.c), .agg c.c] = some [.q (Z1v cs c)] := by
 obtain ⟨D, rfl, hd⟩ := Zd hD
 rw [Yew]
 have h1 := Z6d (show 3 <= D by omega) c.nm cs hl
 have h2 := Zfp (show 2 <= D by omega) c.v hv
 have h3 := Y40 (show 1 <= D by omega) c.how 1 3
 unfold Z1v
 unfold nmI at h1
 cases ha : Z3w c.nm cs with
 | none =>
   rw [ha] at h1
   have hm : ¬ ((0 : Int) <= -1) := by decide
   generalize Z0i c.v = q1 at *
   generalize inB c.how 1 3 = q2 at *
   simp only [Ztl, go_sem, h1, h2, h3, hm, Z2o]
 | some i =>
   rw [ha] at h1
   have hi := Z0q ha
   obtain ⟨col, j0⟩ : ∃ col, cs[i]? = some col := ⟨cs[i], dP hi⟩
   have hr := Zu (f := ColV.c) j0
   have hp : (0 : Int) <= (i : Int) := eL i
   simp only [j0]
   unfold Yce
   generalize Z0i c.v = q1 at *
   generalize inB c.how 1 3 = q2 at *
   cases q1 with
   | false => cases q2 <;> simp only [Ztl, go_sem, h1, h2, h3, hp, hr, Z2o]
   | true =>
     cases q2 with
     | false => simp only [Ztl, go_sem, h1, h2, h3, hp, hr, Z2o]
     | true => rcases pf (c.v.k = col.k) with p1 | p1 <;> rcases pf (c.how = 1) with p2 | p2 <;> simp only [Ztl, go_sem, h1, h2, h3, hp, hr, p1, p2, Z2o]
theorem Zbl {D : Nat} (hD : 5 <= D) (cs : List ColV) (c : CondV) (hs : SmallC cs) (hv : c.v.t.size <= big) : den pr D V6 [.lit Z0 (cs.map ColV.c), .agg c.c] = some [.q (Wo cs c)] := by
 obtain ⟨D, rfl, hd⟩ := Zd hD
 rw [Zjz]
 have h1 := Z8f (show 4 <= D by omega) cs hs
 have h2 := Zgy (show 4 <= D by omega) cs c hs.len hv
 simp only [Z7n, go_sem, h1, h2, Wo]
set_option maxHeartbeats 2000000 in
theorem Zkz {D : Nat} (hD : 5 <= D) (cs : List ColV) (c : CondV) (hs : SmallC cs) (hv : c.v.t.size <= big) : den pr D Z4m [.lit Z0 (cs.map ColV.c), .agg c.c] = some [.q (Wo cs c)] := by
 obtain ⟨D, rfl, hd⟩ := Zd hD
 rw [Zl1]
 have h1 := Z0d (show 4 <= D by omega) cs hs
 have h2 := Zcy (show 1 <= D by omega) c.nm cs hs.len
 have h3 := Z3f (show 2 <= D by omega) c.v hv
 have hx : inB c.how 1 3 = (!decide (c.how < 1) && !decide (3 < c.how)) := by
  unfold inB
  rw [<- decide_not, <- decide_not]
  simp only [Int.not_lt]
 unfold Wo Z1v
 unfold nmI at h2
 generalize Zm cs = q0 at *
 cases ha : Z3w c.nm cs with
 | none =>
   rw [ha] at h2
   have hm : (-1 : Int) < 0 := by decide
   cases q0 <;> simp only [Vb, go_sem, h1, h2, h3, hm]
 | some i =>
   rw [ha] at h2
   have hi := Z0q ha
   obtain ⟨col, j0⟩ : ∃ col, cs[i]? = some col := ⟨cs[i], dP hi⟩
   have hr := Zu (f := ColV.c) j0
   have hp : ¬ ((i : Int) < 0) := by omega
   simp only [j0]
   unfold Yce
   rw [hx]
   generalize Z0i c.v = q1 at *
   cases q0 with
   | false => cases q1 <;> simp only [Vb, go_sem, h1, h2, h3, hp]
   | true =>
     cases q1 with
     | false => simp only [Vb, go_sem, h1, h2, h3, hp]
     | true =>
       rcases pf (c.how < 1) with p3 | p3
       . simp only [Vb, go_sem, h1, h2, h3, hp, p3]
       . rcases pf (3 < c.how) with p4 | p4
         . simp only [Vb, go_sem, h1, h2, h3, hp, p3, p4]
         . rcases pf (c.v.k = col.k) with p1 | p1 <;> rcases pf (c.how = 1) with p2 | p2 <;> simp only [Vb, go_sem, h1, h2, h3, hp, hr, p1, p2, p3, p4, Z2o]
theorem Z9 (es : List ColV) : Z0n (es.map ColV.c) = false := Z6u _ (fun _ => rfl) es
abbrev u8C (n : Int) : List A := [.v (.int .u8 n)]
structure Code (ns : List Int) : Prop where
 len : ns.length <= 2000
 b : ∀ n ∈ ns, 0 <= n /\ n <= 255
abbrev rdB (ns : List Int) (p : Nat) : Option Blk := some ⟨Za1, [[.lit W5 (ns.map u8C), .n p]], true, true⟩
def Ycn (a b : Int) : Int := IntKind.i64.wrap (BitVec.ofInt 64 a ^^^ BitVec.ofInt 64 b).toNat
theorem Zpw {a b : Nat} (ha : a < 2 ^ 62) (hb : b < 2 ^ 62) : 0 <= Ycn a b := by
 unfold Ycn
 have h1 : (BitVec.ofInt 64 (a : Int) ^^^ BitVec.ofInt 64 (b : Int)).toNat = a ^^^ b := by
  rw [BitVec.toNat_xor, BitVec.toNat_ofInt, BitVec.toNat_ofInt]
  have e : ((2 ^ 64 : Nat) : Int) = 2 ^ 64 := by norm_cast
  rw [e]
  have e1 : ((a : Int) % 2 ^ 64).toNat = a := by omega
  have e2 : ((b : Int) % 2 ^ 64).toNat = b := by omega
  rw [e1, e2]
 rw [h1]
 have h2 := Nat.xor_lt_two_pow ha hb
 rw [Zt (by omega) (by omega)]
 omega
theorem Zrt (a b : Nat) : ((a : Int)).tmod (b : Int) = ((a % b : Nat) : Int) := by
 rw [Int.tmod_eq_emod_of_nonneg (by omega)]; rfl
theorem Zrx (a b : Nat) : ((a : Int)).tdiv (b : Int) = ((a / b : Nat) : Int) := by
 rw [Int.tdiv_eq_ediv_of_nonneg (by omega)]; rfl
theorem Zzq {x n : Int} (hx : 0 <= x) (hn : 1 <= n) : 0 <= x.tmod n /\ x.tmod n < n := by
 rw [Int.tmod_eq_emod_of_nonneg hx]
 exact ⟨Int.emod_nonneg _ (by omega), Int.emod_lt_of_pos _ (by omega)⟩
def Ybq (n x : Int) : Prop := (1 <= n -> 0 <= x /\ x < n) /\ (n < 1 -> x = 0)
set_option maxHeartbeats 2000000 in
theorem W8 (ns : List Int) (hc : Code ns) (n : Int) (p : Nat) (hp : p <= 2 ^ 40) :
 ∃ x, Ybq n x /\ ∀ (D : Nat) (hD : 1 <= D) (h : Hp) (m b : Nat) (hb : b < m) (hh : h b = rdB ns p), dcl pr D Z0f [.ptr b 0 0, .n n] h m = some ([.n x], upd h b (rdB ns (p + 1)), m) := by
 have hw : IntKind.i64.wrap ((p : Int) + 1) = ((p + 1 : Nat) : Int) := Zn (by omega)
 have hw1 : IntKind.i64.wrap (((p + 1 : Nat) : Int) - 1) = (p : Int) := Zrh (by omega)
 by_cases h0 : n < 1
 . have hn := eq_true h0
   refine ⟨0, ⟨fun h1 => by omega, fun _ => rfl⟩, fun D hD h m b hb hh => ?_⟩
   . obtain ⟨D, rfl, hd⟩ := Zd hD
     rw [Y3b]
     simp only [Ztw, go_sem, hh, hb, hw, hn]
 . have j1 : ¬ n < 1 := h0
   have hn := eq_false h0
   have j2 : (n = 0) = False := eq_false (by omega)
   cases ns with
   | nil =>
     refine ⟨0, ⟨fun _ => ⟨by omega, by omega⟩, fun _ => rfl⟩, fun D hD h m b hb hh => ?_⟩
     obtain ⟨D, rfl, hd⟩ := Zd hD
     rw [Y3b]
     have hz : ((0 : Nat) : Int) = 0 := rfl
     simp only [Ztw, go_sem, hh, hb, hw, hn, hz]
     rfl
   | cons n0 ns0 =>
     generalize hns : n0 :: ns0 = ns at *
     have j0 : 0 < ns.length := by rw [<- hns]; simp
     have j5 : (((ns.length : Nat) : Int) = 0) = False := eq_false (by omega)
     by_cases hlt : p < ns.length
     . have hg : ns[p]? = some ns[p] := dP hlt
       have hr := Zu (f := u8C) hg
       have ja := hc.b ns[p] (eQ hlt)
       have j6 : IntKind.i64.wrap ns[p] = ns[p] := Zt (by omega) (by omega)
       refine ⟨ns[p].tmod n, ⟨fun h1 => Zzq ja.1 h1, fun h1 => absurd h1 j1⟩, fun D hD h m b hb hh => ?_⟩
       obtain ⟨D, rfl, hd⟩ := Zd hD
       rw [Y3b]
       generalize ns[p] = y at *
       simp only [Ztw, go_sem, hh, hb, hw, hw1, hn, j2, j5, hlt, hr, j6, dL]
     . have j4 : p % ns.length < ns.length := Nat.mod_lt _ j0
       have j3 : (p * 7 + 3) % ns.length < ns.length := Nat.mod_lt _ j0
       have jb : ns[p % ns.length]? = some ns[p % ns.length] := dP j4
       have jc : ns[(p * 7 + 3) % ns.length]? = some ns[(p * 7 + 3) % ns.length] := dP j3
       have j8 := Zu (f := u8C) jb
       have j7 := Zu (f := u8C) jc
       have jg := hc.b _ (eQ j4)
       have jd := hc.b _ (eQ j3)
       have jf : p / ns.length <= p := Nat.div_le_self _ _
       have t1 := Zrt p ns.length
       have t2 : (((p : Int) * 7) + 3).tmod (ns.length : Int) = (((p * 7 + 3) % ns.length : Nat) : Int) := by
        have := Zrt (p * 7 + 3) ns.length
        rw [<- this]; rfl
       have t3 := Zrx p ns.length
       generalize hy1 : ns[p % ns.length] = y1 at *
       generalize hy2 : ns[(p * 7 + 3) % ns.length] = y2 at *
       generalize hq : p / ns.length = q at *
       have w1 : IntKind.i64.wrap y1 = y1 := Zt (by omega) (by omega)
       have w2 : IntKind.i64.wrap y2 = y2 := Zt (by omega) (by omega)
       have w3 : IntKind.i64.wrap (y1 * 131) = y1 * 131 := Zt (by omega) (by omega)
       have w4 : IntKind.i64.wrap ((p : Int) * 7) = (p : Int) * 7 := Zt (by omega) (by omega)
       have w5 : IntKind.i64.wrap ((p : Int) * 7 + 3) = (p : Int) * 7 + 3 := Zt (by omega) (by omega)
       have w6 : IntKind.i64.wrap (y2 * 1117) = y2 * 1117 := Zt (by omega) (by omega)
       have w7 : IntKind.i64.wrap (y1 * 131 + y2 * 1117) = y1 * 131 + y2 * 1117 := Zt (by omega) (by omega)
       have w8 : IntKind.i64.wrap ((p : Int) * 29) = (p : Int) * 29 := Zt (by omega) (by omega)
       have w9 : IntKind.i64.wrap (y1 * 131 + y2 * 1117 + (p : Int) * 29) = y1 * 131 + y2 * 1117 + (p : Int) * 29 := Zt (by omega) (by omega)
       have wa : IntKind.i64.wrap (q : Int) = (q : Int) := Zt (by omega) (by omega)
       have wb : IntKind.i64.wrap ((q : Int) * 53) = (q : Int) * 53 := Zt (by omega) (by omega)
       have wc : IntKind.i64.wrap (y1 * 131 + y2 * 1117 + (p : Int) * 29 + (q : Int) * 53) = y1 * 131 + y2 * 1117 + (p : Int) * 29 + (q : Int) * 53 := Zt (by omega) (by omega)
       obtain ⟨z, hz⟩ : ∃ z : Nat, y1 * 131 + y2 * 1117 + (p : Int) * 29 + (q : Int) * 53 = (z : Int) := ⟨(y1 * 131 + y2 * 1117 + (p : Int) * 29 + (q : Int) * 53).toNat, by omega⟩
       have jh : z < 2 ^ 60 := by omega
       have wz : IntKind.i64.wrap (z : Int) = (z : Int) := Zt (by omega) (by omega)
       have t4 : ((z : Int)).tdiv 64 = ((z / 64 : Nat) : Int) := Zrx z 64
       have wd : IntKind.i64.wrap ((z / 64 : Nat) : Int) = ((z / 64 : Nat) : Int) := Zt (by omega) (by omega)
       have hx := Zpw (a := z) (b := z / 64) (by omega) (by omega)
       have je : IntKind.i64.wrap ((BitVec.ofInt 64 (z : Int) ^^^ BitVec.ofInt 64 ((z / 64 : Nat) : Int)).toNat : Int) = Ycn z ((z / 64 : Nat) : Int) := rfl
       refine ⟨(Ycn z ((z / 64 : Nat) : Int)).tmod n, ⟨fun h1 => Zzq hx h1, fun h1 => absurd h1 j1⟩, fun D hD h m b hb hh => ?_⟩
       obtain ⟨D, rfl, hd⟩ := Zd hD
       rw [Y3b]
       have j9 : ((64 : Int) = 0) = False := eq_false (by decide)
       simp only [Ztw, go_sem, hh, hb, hw, hw1, hn, j2, j5, hlt, j8, j7, t1, t2, t3, w1, w2, w3, w4, w5, w6, w7, w8, w9, wa, wb, wz, hz, t4, wd, j9, dL]
       rfl
def mix (m : Nat) (f g : Hp) : Hp := fun i => if i < m then f i else g i
theorem Zf8 {m i : Nat} (h : i < m) (f g : Hp) : mix m f g i = f i := by simp [mix, h]
theorem Y7z {base m : Nat} (h : base <= m) (f g : Hp) : low base (mix m f g) = low base f := by
 funext i
 simp only [low, mix]
 by_cases h1 : i < base
 . have : i < m := by omega
   simp [h1, this]
 . simp [h1]
theorem Y9i {m : Nat} {f g : Hp} (h : ∀ i, i < m -> g i = f i) : g = mix m f g := by
 funext i
 unfold mix
 by_cases hi : i < m
 . simp [hi, h i hi]
 . simp [hi]
theorem Zoy {J : Type} {i k : Nat} (h : i ≠ k) (f : Nat -> J) (x : J) : upd f k x i = f i := by simp [upd, h]
theorem Vw {J : Type} (f : Nat -> J) (k : Nat) (x : J) : upd f k x k = x := by simp [upd]
theorem Zp7 (ns : List Int) (hc : Code ns) (xs : List Int) (hx : 0 < xs.length) (p : Nat) (hp : p <= 2 ^ 40) :
 ∃ x, x ∈ xs /\ ∀ (D : Nat) (hD : 2 <= D) (h : Hp) (m b bl c : Nat) (ex : Bool) (hb : b < m) (hbl : ¬ bl = b) (hh : h b = rdB ns p) (hl : h bl = some ⟨Zy, xs.map Z1m, true, false⟩), dcl pr D Zan [.ptr b 0 0, .ref Zy bl 0 xs.length c ex] h m = some ([.n x], upd h b (rdB ns (p + 1)), m) := by
 obtain ⟨k, hk, he⟩ := W8 ns hc xs.length p hp
 have j0 := hk.1 (by omega)
 obtain ⟨j, rfl⟩ : ∃ j : Nat, k = (j : Int) := ⟨k.toNat, by omega⟩
 have hj : j < xs.length := by omega
 have hg : xs[j]? = some xs[j] := dP hj
 refine ⟨xs[j], eQ hj, fun D hD h m b bl c ex hb hbl hh hl => ?_⟩
 obtain ⟨D, rfl, hd⟩ := Zd hD
 have hr := Zu (f := Z1m) hg
 have e := he D hd h m b hb hh
 rw [Yb6]
 simp only [Y11, go_sem, e, hj, hl, hbl, hr]
abbrev Yaw (s : ByteArray) : List A := [.s s]
theorem Zv0 (ns : List Int) (hc : Code ns) (xs : List ByteArray) (hx : 0 < xs.length) (p : Nat) (hp : p <= 2 ^ 40) :
 ∃ x, x ∈ xs /\ ∀ (D : Nat) (hD : 2 <= D) (h : Hp) (m b bl c : Nat) (ex : Bool) (hb : b < m) (hbl : ¬ bl = b) (hh : h b = rdB ns p) (hl : h bl = some ⟨Vl, xs.map Yaw, true, false⟩), dcl pr D Zah [.ptr b 0 0, .ref Vl bl 0 xs.length c ex] h m = some ([.s x], upd h b (rdB ns (p + 1)), m) := by
 obtain ⟨k, hk, he⟩ := W8 ns hc xs.length p hp
 have j0 := hk.1 (by omega)
 obtain ⟨j, rfl⟩ : ∃ j : Nat, k = (j : Int) := ⟨k.toNat, by omega⟩
 have hj : j < xs.length := by omega
 have hg : xs[j]? = some xs[j] := dP hj
 refine ⟨xs[j], eQ hj, fun D hD h m b bl c ex hb hbl hh hl => ?_⟩
 obtain ⟨D, rfl, hd⟩ := Zd hD
 have hr := Zu (f := Yaw) hg
 have e := he D hd h m b hb hh
 rw [Ydz]
 simp only [Y75, go_sem, e, hj, hl, hbl, hr]
abbrev Zz3 : List Int := [0, 1, 2, 3, -1, 7, 999, -999]
abbrev Zsy : List ByteArray := [⟨#[]⟩, ⟨#[97]⟩, ⟨#[98]⟩, ⟨#[97, 98]⟩, ⟨#[49, 50]⟩, ⟨#[45, 53]⟩, ⟨#[48, 48, 55]⟩, ⟨#[122, 122, 122, 122]⟩, ⟨#[51]⟩]
theorem fin {m k : Nat} {r : List A} {H f : Hp} (hH : ∀ i, i < m -> H i = f i) : some (r, H, k) = some (r, mix m f H, k) := by rw [<- Y9i hH]
def Zqa (ns : List Int) (p k f : Nat) (xs : List A) (rs : List A) (p' g : Nat) (G : Hp -> Nat -> Nat -> Hp) : Prop :=
 ∀ (D : Nat) (_ : k + 1 <= D) (h : Hp) (m b : Nat) (_ : b < m) (_ : h b = rdB ns p), dcl pr D f (.ptr b 0 0 :: xs) h m = some (rs, mix m (upd h b (rdB ns p')) (G h m b), m + g)
theorem Z4d {ns : List Int} {p k f : Nat} {xs rs : List A} {p' g : Nat}
 (H : ∀ (h : Hp) (m b : Nat), b < m -> h b = rdB ns p -> ∃ G, ∀ (d : Nat), k <= d -> dcl pr (d + 1) f (.ptr b 0 0 :: xs) h m = some (rs, mix m (upd h b (rdB ns p')) G, m + g)) : ∃ G, Zqa ns p k f xs rs p' g G := by
 classical
 refine ⟨fun h m b => if hc : b < m /\ h b = rdB ns p then Classical.choose (H h m b hc.1 hc.2) else h, fun D hD h m b hb hh => ?_⟩
 have hc : b < m /\ h b = rdB ns p := ⟨hb, hh⟩
 obtain ⟨d, rfl, hd⟩ := Zd hD
 simp only [dif_pos hc]
 exact Classical.choose_spec (H h m b hb hh) d hd
def Drawn (kind : Int) (v : Val) : Prop := v = ⟨0, 0, ⟨#[]⟩⟩ \/ (v.k = kind /\ ((kind = 1 /\ v.n ∈ Zz3 /\ v.t = ⟨#[]⟩) \/ (¬ kind = 1 /\ v.n = 0 /\ v.t ∈ Zsy)))
theorem Drawn.size {kind : Int} {v : Val} (h : Drawn kind v) : v.t.size <= 4 := by
 rcases h with rfl | ⟨_, ⟨_, _, h⟩ | ⟨_, _, h⟩⟩
 . exact dE _
 . rw [h]; exact dE _
 . have : ∀ t ∈ Zsy, t.size <= 4 := by decide
   exact this _ h
theorem Zmd (ns : List Int) (hc : Code ns) (kind : Int) (p : Nat) (hp : p + 2 <= 2 ^ 40) :
 ∃ (v : Val) (p' g : Nat) (G : Hp -> Nat -> Nat -> Hp), Drawn kind v /\ p' <= p + 2 /\ Zqa ns p 2 Xk [.n kind] [.agg v.c] p' g G := by
 obtain ⟨x, hx, ex⟩ := W8 ns hc 6 p (by omega)
 by_cases h0 : x = 0 \/ kind = 0
 . obtain ⟨G, hG⟩ := Z4d (ns := ns) (p := p) (k := 2) (f := Xk) (xs := [.n kind]) (rs := [.agg (⟨0, 0, ⟨#[]⟩⟩ : Val).c]) (p' := p + 1) (g := 1) (fun h m b hb hh => by
    have j3 : ¬ b = m := by omega
    have j4 : ¬ m = b := by omega
    have j6 : b < m + 1 := by omega
    refine ⟨?G1, fun D hD => ?_⟩
    rotate_left
    . rw [Z7s]
      have hq : (decide (x = 0) || decide (kind = 0)) = true := by rcases h0 with h | h <;> simp [h]
      simp only [Z2f, go_sem, ex D (by omega), j3, j4, j6, hh, hq]
      refine fin (fun i hi => ?_)
      have h1 : ¬ i = m := by omega
      simp only [Z6, h1, if_false])
   exact ⟨_, _, _, G, .inl rfl, by omega, hG⟩
 . have j9 : ¬ x = 0 /\ ¬ kind = 0 := not_or.1 h0
   have q1 := eq_false j9.1
   have q2 := eq_false j9.2
   by_cases hk : kind = 1
   . obtain ⟨y, hy, ey⟩ := Zp7 ns hc Zz3 (by decide) (p + 1) (by omega)
     obtain ⟨G, hG⟩ := Z4d (ns := ns) (p := p) (k := 2) (f := Xk) (xs := [.n kind]) (rs := [.agg (⟨kind, y, ⟨#[]⟩⟩ : Val).c]) (p' := p + 2) (g := 3) (fun h m b hb hh => by
      have j3 : ¬ b = m := by omega
      have j4 : ¬ m = b := by omega
      have j6 : b < m + 1 := by omega
      have j0 : ¬ b = m + 1 := by omega
      have j1 : ¬ m + 1 = b := by omega
      have j8 : b < m + 1 + 1 := by omega
      have j7 : ¬ m = m + 1 := by omega
      have j2 : ¬ m + 1 = m := by omega
      refine ⟨?G2, fun D hD => ?_⟩
      rotate_left
      . rw [Z7s]
        have ja := eq_true hk
        have j5 := fun h m b bl => ey D (by omega) h m b bl 8 true
        simp only [eB, eC] at j5
        simp only [Z2f, go_sem, ex D (by omega), j5, j3, j4, j6, j0, j1, j8, j7, j2, hh, q1, q2, ja]
        refine fin (fun i hi => ?_)
        have h1 : ¬ i = m := by omega
        have h2 : ¬ i = m + 1 := by omega
        by_cases h3 : i = b <;> simp only [Z6, h1, h2, h3, j3, j0, if_false, if_true])
     exact ⟨_, _, _, G, .inr ⟨rfl, .inl ⟨hk, hy, rfl⟩⟩, by omega, hG⟩
   . have q3 := eq_false hk
     obtain ⟨y, hy, ey⟩ := Zv0 ns hc Zsy (by decide) (p + 1) (by omega)
     obtain ⟨G, hG⟩ := Z4d (ns := ns) (p := p) (k := 2) (f := Xk) (xs := [.n kind]) (rs := [.agg (⟨kind, 0, y⟩ : Val).c]) (p' := p + 2) (g := 3) (fun h m b hb hh => by
      have j3 : ¬ b = m := by omega
      have j4 : ¬ m = b := by omega
      have j6 : b < m + 1 := by omega
      have j0 : ¬ b = m + 1 := by omega
      have j1 : ¬ m + 1 = b := by omega
      have j8 : b < m + 1 + 1 := by omega
      have j7 : ¬ m = m + 1 := by omega
      have j2 : ¬ m + 1 = m := by omega
      refine ⟨?G3, fun D hD => ?_⟩
      rotate_left
      . rw [Z7s]
        have j5 := fun h m b bl => ey D (by omega) h m b bl 9 true
        simp only [eB, eC] at j5
        simp only [Z2f, go_sem, ex D (by omega), j5, j3, j4, j6, j0, j1, j8, j7, j2, hh, q1, q2, q3]
        refine fin (fun i hi => ?_)
        have h1 : ¬ i = m := by omega
        have h2 : ¬ i = m + 1 := by omega
        by_cases h3 : i = b <;> simp only [Z6, h1, h2, h3, j3, j0, if_false, if_true])
     exact ⟨_, _, _, G, .inr ⟨rfl, .inr ⟨hk, rfl, hy⟩⟩, by omega, hG⟩
theorem Zdo (ns : List Int) (hc : Code ns) (kind : Int) (p : Nat) (hp : p + 2 <= 2 ^ 40) :
 ∃ (v : Val) (p' g : Nat) (G : Hp -> Nat -> Nat -> Hp), v.t.size <= 4 /\ p' <= p + 2 /\ Zqa ns p 2 Xk [.n kind] [.agg v.c] p' g G := by
 obtain ⟨v, p', g, G, h, r⟩ := Zmd ns hc kind p hp
 exact ⟨v, p', g, G, h.size, r⟩
abbrev Yev : List Int := [0, 3, -1, 1, 2]
abbrev Ydr : List Int := [1000, -1000, 5, 9223372036854775807]
abbrev Ybe : List ByteArray := [⟨#[97, 98, 99, 100, 101]⟩, ⟨#[65]⟩, ⟨#[113]⟩, ⟨#[39]⟩]
theorem Y3f (ns : List Int) (hc : Code ns) (v : Val) (hv : v.t.size <= 5) (p : Nat) (hp : p + 2 <= 2 ^ 40) :
 ∃ (v' : Val) (p' g : Nat) (G : Hp -> Nat -> Nat -> Hp), v'.t.size <= 5 /\ p' <= p + 2 /\ Zqa ns p 2 V7 [.agg v.c] [.agg v'.c] p' g G := by
 obtain ⟨x, hx, ex⟩ := W8 ns hc 32 p (by omega)
 by_cases h0 : x = 0
 . obtain ⟨y, hy, ey⟩ := Zp7 ns hc Yev (by decide) (p + 1) (by omega)
   obtain ⟨G, hG⟩ := Z4d (ns := ns) (p := p) (k := 2) (f := V7) (xs := [.agg v.c]) (rs := [.agg (⟨y, v.n, v.t⟩ : Val).c]) (p' := p + 2) (g := 4) (fun h m b hb hh => by
    have j4 : ¬ b = m := by omega
    have j6 : ¬ m = b := by omega
    have j1 : ¬ b = m + 1 := by omega
    have j3 : ¬ m + 1 = b := by omega
    have ja : ¬ b = m + 1 + 1 := by omega
    have j9 : ¬ m + 1 + 1 = b := by omega
    have j0 : ¬ b = m + 2 := by omega
    have j2 : ¬ m + 2 = b := by omega
    have j7 : b < m + 2 := by omega
    have j8 : b < m + 2 + 1 := by omega
    have m1 : ¬ m = m + 1 := by omega
    have m2 : ¬ m + 1 = m := by omega
    have m3 : ¬ m = m + 2 := by omega
    have m4 : ¬ m + 2 = m := by omega
    have m5 : ¬ m + 1 = m + 2 := by omega
    have m6 : ¬ m + 2 = m + 1 := by omega
    refine ⟨?G1, fun D hD => ?_⟩
    rotate_left
    . rw [Z4a]
      have q0 := eq_true h0
      have j5 := fun h m b bl => ey D (by omega) h m b bl 5 true
      simp only [eB, eC] at j5
      simp only [Z0z, go_sem, ex D (by omega), j5, j4, j6, j1, j3, j0, j2, j7, j8, m1, m2, m3, m4, m5, m6, hh, q0]
      refine fin (fun i hi => ?_)
      have h1 : ¬ i = m := by omega
      have h2 : ¬ i = m + 1 := by omega
      have h4 : ¬ i = m + 2 := by omega
      by_cases h3 : i = b <;> simp only [Z6, h1, h2, h3, h4, j4, j1, j0, if_false, if_true])
   exact ⟨⟨y, v.n, v.t⟩, p + 2, 4, G, hv, by omega, hG⟩
 . have q0 := eq_false h0
   by_cases h1 : x = 1
   . obtain ⟨y, hy, ey⟩ := Zp7 ns hc Ydr (by decide) (p + 1) (by omega)
     obtain ⟨G, hG⟩ := Z4d (ns := ns) (p := p) (k := 2) (f := V7) (xs := [.agg v.c]) (rs := [.agg (⟨v.k, y, v.t⟩ : Val).c]) (p' := p + 2) (g := 4) (fun h m b hb hh => by
      have j4 : ¬ b = m := by omega
      have j6 : ¬ m = b := by omega
      have j1 : ¬ b = m + 1 := by omega
      have j3 : ¬ m + 1 = b := by omega
      have j0 : ¬ b = m + 2 := by omega
      have j2 : ¬ m + 2 = b := by omega
      have j7 : b < m + 2 := by omega
      have j8 : b < m + 2 + 1 := by omega
      have m1 : ¬ m = m + 1 := by omega
      have m2 : ¬ m + 1 = m := by omega
      have m3 : ¬ m = m + 2 := by omega
      have m4 : ¬ m + 2 = m := by omega
      have m5 : ¬ m + 1 = m + 2 := by omega
      have m6 : ¬ m + 2 = m + 1 := by omega
      refine ⟨?G2, fun D hD => ?_⟩
      rotate_left
      . rw [Z4a]
        have q1 := eq_true h1
        have j5 := fun h m b bl => ey D (by omega) h m b bl 4 true
        simp only [eB, eC] at j5
        simp only [Z0z, go_sem, ex D (by omega), j5, j4, j6, j1, j3, j0, j2, j7, j8, m1, m2, m3, m4, m5, m6, hh, q0, q1]
        refine fin (fun i hi => ?_)
        have h1 : ¬ i = m := by omega
        have h2 : ¬ i = m + 1 := by omega
        have h4 : ¬ i = m + 2 := by omega
        by_cases h3 : i = b <;> simp only [Z6, h1, h2, h3, h4, j4, j1, j0, if_false, if_true])
     exact ⟨⟨v.k, y, v.t⟩, p + 2, 4, G, hv, by omega, hG⟩
   . have q1 := eq_false h1
     by_cases h2 : x = 2
     . obtain ⟨y, hy, ey⟩ := Zv0 ns hc Ybe (by decide) (p + 1) (by omega)
       obtain ⟨G, hG⟩ := Z4d (ns := ns) (p := p) (k := 2) (f := V7) (xs := [.agg v.c]) (rs := [.agg (⟨v.k, v.n, y⟩ : Val).c]) (p' := p + 2) (g := 4) (fun h m b hb hh => by
        have j4 : ¬ b = m := by omega
        have j6 : ¬ m = b := by omega
        have j1 : ¬ b = m + 1 := by omega
        have j3 : ¬ m + 1 = b := by omega
        have j0 : ¬ b = m + 2 := by omega
        have j2 : ¬ m + 2 = b := by omega
        have j7 : b < m + 2 := by omega
        have j8 : b < m + 2 + 1 := by omega
        have m1 : ¬ m = m + 1 := by omega
        have m2 : ¬ m + 1 = m := by omega
        have m3 : ¬ m = m + 2 := by omega
        have m4 : ¬ m + 2 = m := by omega
        have m5 : ¬ m + 1 = m + 2 := by omega
        have m6 : ¬ m + 2 = m + 1 := by omega
        refine ⟨?G3, fun D hD => ?_⟩
        rotate_left
        . rw [Z4a]
          have q2 := eq_true h2
          have j5 := fun h m b bl => ey D (by omega) h m b bl 4 true
          simp only [eB, eC] at j5
          simp only [Z0z, go_sem, ex D (by omega), j5, j4, j6, j1, j3, j0, j2, j7, j8, m1, m2, m3, m4, m5, m6, hh, q0, q1, q2]
          refine fin (fun i hi => ?_)
          have h1 : ¬ i = m := by omega
          have h2 : ¬ i = m + 1 := by omega
          have h4 : ¬ i = m + 2 := by omega
          by_cases h3 : i = b <;> simp only [Z6, h1, h2, h3, h4, j4, j1, j0, if_false, if_true])
       refine ⟨⟨v.k, v.n, y⟩, p + 2, 4, G, ?_, by omega, hG⟩
       have : ∀ t ∈ Ybe, t.size <= 5 := by decide
       exact this y hy
     . have q2 := eq_false h2
       obtain ⟨G, hG⟩ := Z4d (ns := ns) (p := p) (k := 2) (f := V7) (xs := [.agg v.c]) (rs := [.agg v.c]) (p' := p + 1) (g := 2) (fun h m b hb hh => by
        have j4 : ¬ b = m := by omega
        have j6 : ¬ m = b := by omega
        have j1 : ¬ b = m + 1 := by omega
        have j3 : ¬ m + 1 = b := by omega
        have j7 : b < m + 2 := by omega
        have m1 : ¬ m = m + 1 := by omega
        have m2 : ¬ m + 1 = m := by omega
        refine ⟨?G4, fun D hD => ?_⟩
        rotate_left
        . rw [Z4a]
          simp only [Z0z, go_sem, ex D (by omega), j4, j6, j1, j3, j7, m1, m2, hh, q0, q1, q2]
          refine fin (fun i hi => ?_)
          have h1 : ¬ i = m := by omega
          have h2 : ¬ i = m + 1 := by omega
          by_cases h3 : i = b <;> simp only [Z6, h1, h2, h3, j4, j1, if_false, if_true])
       exact ⟨v, p + 1, 2, G, hv, by omega, hG⟩
theorem Zbn (ns : List Int) (hc : Code ns) (p : Nat) (hp : p + 5 <= 2 ^ 40) :
 ∃ (v : Val) (p' g : Nat) (G : Hp -> Nat -> Nat -> Hp), v.t.size <= 5 /\ p' <= p + 5 /\ Zqa ns p 3 Wi [] [.agg v.c] p' g G := by
 obtain ⟨x, hx, ex⟩ := W8 ns hc 3 p (by omega)
 obtain ⟨v, p1, g1, G1, hv, j4, e1⟩ := Zdo ns hc x (p + 1) (by omega)
 obtain ⟨u, p2, g2, G2, hu, j5, e2⟩ := Y3f ns hc v (by omega) p1 (by omega)
 obtain ⟨G, hG⟩ := Z4d (ns := ns) (p := p) (k := 3) (f := Wi) (xs := []) (rs := [.agg u.c]) (p' := p2) (g := 1 + g1 + g2) (fun h m b hb hh => by
  have j2 : ¬ b = m := by omega
  have j0 : ¬ m = b := by omega
  have j1 : b < m + 1 := by omega
  have j3 : b < m + 1 + g1 := by omega
  have n1 : m < m + 1 := by omega
  have n2 : m < m + 1 + g1 := by omega
  refine ⟨?G1, fun D hD => ?_⟩
  rotate_left
  . rw [Zij, show m + (1 + g1 + g2) = m + 1 + g1 + g2 by omega]
    simp only [Z7r, go_sem, ex D (by omega), e1 D (by omega), e2 D (by omega), j2, j0, j1, j3, n1, n2, hh, Zf8]
    refine fin (fun i hi => ?_)
    have h1 : ¬ i = m := by omega
    have h5 : i < m + 1 := by omega
    have h6 : i < m + 1 + g1 := by omega
    by_cases h3 : i = b
    . subst h3
      simp only [Z6, Zf8, h1, h5, h6, if_false, if_true]
    . simp only [Z6, Zf8, h1, h3, h5, h6, if_false])
 exact ⟨u, p2, _, G, hu, by omega, hG⟩
theorem Zm2 {D : Nat} (hD : 1 <= D) (ns : List Int) (hl : ns.length <= maxLen) (h : Hp) (m : Nat) :
 dcl pr D Z1d [.lit W5 (ns.map u8C)] h m = some ([.ptr (m + 1) 0 0], upd (upd h m (some ⟨W5, [], true, false⟩)) (m + 1) (rdB (ns.take 2000) 0), m + 2) := by
 obtain ⟨D, rfl, hd⟩ := Zd hD
 rw [Zg3]
 by_cases hn : (2000 : Int) < (ns.length : Int)
 . have h1 : 2000 <= ns.length := by omega
   have h2 : (2000 : Int).toNat = 2000 := rfl
   have h3 : (0 : Int) <= 2000 := by decide
   simp only [Z32, go_sem, dL, hn, h1, h2, h3, dE, dM]
   rw [<- gL]
   rfl
 . have h1 : ns.take 2000 = ns := dN (by omega)
   rw [h1]
   simp only [Z32, go_sem, dL, hn]
   rfl
def Y4k (e : Ent) : Nat -> Unit -> Ent -> Unit ⊕ Nat := fun i _ x => bif Zfe x e then .inl () else .inr i
def Ycs (e : Ent) (es : List Ent) : Nat := match Zz (Y4k e) 0 () es with
 | .inl _ => es.length
 | .inr i => i
def Yci (e : Ent) (es : List Ent) : List Ent := es.take (Ycs e es) ++ [e] ++ es.drop (Ycs e es)
theorem Y4v (e : Ent) : ∀ (es : List Ent) (i k : Nat), Zz (Y4k e) i () es = .inr k -> i <= k /\ k < i + es.length
 | [], i, k, h => nomatch h
 | x :: es, i, k, h => by
   unfold Zz Y4k at h
   cases hx : Zfe x e with
   | false =>
     simp [hx] at h
     subst h
     simp
   | true =>
     simp only [hx, cond_true] at h
     have := Y4v e es (i + 1) k h
     simp only [eB]
     omega
theorem Y6b (e : Ent) (es : List Ent) : Ycs e es <= es.length := by
 unfold Ycs
 split
 . exact dM _
 . rename_i i h
   have := Y4v e es 0 i h
   omega
theorem Y0m (e : Ent) (es : List Ent) : (Yci e es).length = es.length + 1 := by
 have := Y6b e es
 unfold Yci
 simp
 omega
end Go.Vm.T
namespace Go.Vm.T
attribute [go_sem] Nat.add_eq_zero_iff Nat.add_assoc Nat.add_left_cancel_iff Nat.left_eq_add Nat.add_eq_left Nat.add_lt_add_iff_left Nat.lt_add_right_iff_pos Zf8
variable [Pr0]
theorem ltS (m k : Nat) : (m + k < m) = False := eq_false (by omega)
theorem leS (m k : Nat) : (m <= m + k) = True := eq_true (by omega)
theorem Zro (m k : Nat) (h : Hp) (x : Option Blk) : low m (upd h (m + k) x) = low m h := by
 funext i
 simp only [low, Z6]
 by_cases h1 : i < m
 . rw [if_pos h1, if_pos h1, if_neg (by omega)]
 . rw [if_neg h1, if_neg h1]
theorem Zyk (m : Nat) (h : Hp) (x : Option Blk) : low m (upd h m x) = low m h := Zro m 0 h x
theorem Y35 (m k : Nat) (f g : Hp) : low m (mix (m + k) f g) = low m f := Y7z (Nat.le_add_right _ _) f g
attribute [go_sem] ltS leS Zro Zyk Y35 Y8p
theorem eqF {a b : Nat} (h : ¬ a = b) : (a = b) = False := eq_false h
structure Below (b m : Nat) : Prop where
 e : (b = m) = False
 e' : (m = b) = False
 k : ∀ k, (b = m + k) = False
 k' : ∀ k, (m + k = b) = False
 l : (b < m) = True
 lk : ∀ k, (b < m + k) = True
theorem Below.b {b m : Nat} (B : Below b m) : (b = m) = False /\ (m = b) = False /\ (∀ k, (b = m + k) = False) /\ ∀ k, (m + k = b) = False := ⟨B.e, B.e', B.k, B.k'⟩
theorem Below.a {b m : Nat} (B : Below b m) : (b = m) = False /\ (m = b) = False /\ (∀ k, (b = m + k) = False) /\ (∀ k, (m + k = b) = False) /\ (b < m) = True /\ ∀ k, (b < m + k) = True := ⟨B.e, B.e', B.k, B.k', B.l, B.lk⟩
theorem Z8 {b m : Nat} (h : b < m) : Below b m := ⟨eq_false (by omega), eq_false (by omega), fun k => eq_false (by omega), fun k => eq_false (by omega), eq_true h, fun k => eq_true (by omega)⟩
theorem Yfd {m k b : Nat} {r : List A} {H h : Hp} {x : Option Blk} (h1 : H b = x) (h2 : ∀ i, i < m -> ¬ i = b -> H i = h i) : some (r, H, k) = some (r, mix m (upd h b x) H, k) := fin fun i hi => by
 by_cases hb : i = b
 . subst hb; rw [h1, Vw]
 . rw [Zoy hb, h2 i hi hb]
structure DrawnC (nm : ByteArray) (c : ColV) : Prop where
 nm : c.nm = nm
 k : c.k = 1 \/ c.k = 2
 df : Drawn c.k c.df
 once : c.once = true -> c.df = ⟨0, 0, ⟨#[]⟩⟩
theorem Ztb {P : Prop} {ns : List Int} {p k f : Nat} {xs rs : List A} {p' q g : Nat} (hP : P) (hq : p' <= q)
 (H : ∀ (h : Hp) (m b : Nat), h b = rdB ns p -> Below b m -> ∃ G, ∀ (d : Nat), k <= d -> dcl pr (d + 1) f (.ptr b 0 0 :: xs) h m = some (rs, mix m (upd h b (rdB ns p')) G, m + g)) : ∃ G, P /\ p' <= q /\ Zqa ns p k f xs rs p' g G := by
 obtain ⟨G, hG⟩ := Z4d (ns := ns) (p := p) (k := k) (f := f) (xs := xs) (rs := rs) (p' := p') (g := g) (fun h m b hb hh => H h m b hh (Z8 hb))
 exact ⟨G, hP, hq, hG⟩
theorem Zx3 (ns : List Int) (hc : Code ns) (nm : ByteArray) (p : Nat) (hp : p + 5 <= 2 ^ 40) :
 ∃ c p' g G, DrawnC nm c /\ p' <= p + 5 /\ Zqa ns p 3 Z3m [.s nm] [.agg c.c] p' g G := by
 obtain ⟨x, hx, ex⟩ := W8 ns hc 2 p (by omega)
 obtain ⟨y, hy, ey⟩ := W8 ns hc 4 (p + 1) (by omega)
 obtain ⟨z, hz, ez⟩ := W8 ns hc 4 (p + 2) (by omega)
 have j2 := hx.1 (by decide)
 have j1 : IntKind.i64.wrap (1 + x) = 1 + x := Zt (by omega) (by omega)
 by_cases hz0 : z = 0
 . have q := eq_true hz0
   refine ⟨⟨nm, 1 + x, decide (y = 0), true, ⟨0, 0, ⟨#[]⟩⟩⟩, p + 3, _, Ztb ⟨rfl, by simp only; omega, .inl rfl, fun _ => rfl⟩ (by omega) (fun h m b hh B => by
    refine ⟨?_, fun D hD => ?_⟩
    rotate_left
    rw [Zd0]
    simp only [Z5x, go_sem, ex D (by omega), ey D (by omega), ez D (by omega), j1, hh, q, B.a]
    refine Yfd ?_ (fun i hi j0 => ?_)
    . simp only [go_sem, B.a]
    . have I := Z8 hi
      simp only [go_sem, j0, I.a])⟩
 . have q := eq_false hz0
   obtain ⟨v, p1, g1, G1, hv, j3, e1⟩ := Zmd ns hc (1 + x) (p + 3) (by omega)
   refine ⟨⟨nm, 1 + x, decide (y = 0), false, v⟩, p1, _, Ztb ⟨rfl, by simp only; omega, hv, fun h => by cases h⟩ (by omega) (fun h m b hh B => by
    refine ⟨?_, fun D hD => ?_⟩
    rotate_left
    rw [Zd0]
    simp only [Z5x, go_sem, ex D (by omega), ey D (by omega), ez D (by omega), e1 D (by omega), j1, hh, q, B.a]
    refine Yfd ?_ (fun i hi j0 => ?_)
    . simp only [go_sem, B.a]
    . have I := Z8 hi
      simp only [go_sem, j0, I.a])⟩
end Go.Vm.T
namespace Go.Vm.T
class Pr1 extends Pr0 where
 num : pg.ext Yv = some Zvq
variable [Pr1]
theorem Zke (D : Nat) (as : List A) : den pr (D + 1) Yv as = Zvq as := Zck Pr1.num
def Zte (neg : Bool) (l : List UInt8) : Option Nat := if l.length = 0 \/ 17 < l.length \/ (l.head? = some 48 /\ (1 < l.length \/ neg = true)) then none else Lib.decFrom 0 l
def Y04 (l : List UInt8) : Option Int := if l.head? = some 45 then (Zte true l.tail).map (fun m => -(m : Int)) else (Zte false l).map (fun m => (m : Int))
def Ycr (_ : Nat) (acc : Nat) (c : UInt8) : Nat ⊕ Unit := match Lib.digitVal c with
 | some d => .inl (acc * 10 + d)
 | none => .inr ()
theorem Zxn : ∀ (l : List UInt8) (i acc : Nat), (Zz Ycr i acc l : Nat ⊕ Unit) = match Lib.decFrom acc l with | some m => .inl m | none => .inr ()
 | [], i, acc => rfl
 | c :: l, i, acc => by
   unfold Zz Lib.decFrom Ycr
   cases Lib.digitVal c with
   | none => rfl
   | some d => exact Zxn l (i + 1) _
theorem Yen {i m acc d : Nat} (hi : i < 17) (h : acc < 10 ^ i) (hd : d <= 9) : acc * 10 + d < 10 ^ (i + 1) := by
 rw [Nat.pow_succ]; omega
theorem Y1p {i : Nat} (hi : i <= 17) : 10 ^ i <= 100000000000000000 := by
 have := Nat.pow_le_pow_right (n := 10) (by decide) hi
 have e : (10 : Nat) ^ 17 = 100000000000000000 := by decide
 omega
theorem Zey (E : Env) (neg : Bool) (t : ByteArray) (ht : t.size <= 17) :
 Vs (Zc (Zg E Z2j) [0, 4, 5, 6] rounds ⟨upd (upd (upd (upd (fun _ => .bad) 0 (.s t)) 4 (.q neg)) 5 (.n (0 : Nat))) 6 (.n (0 : Nat)), fun _ => none, 0, 0⟩) Nat Unit (match Lib.decFrom 0 t.data.toList with | some m => .inl m | none => .inr ())
  (fun m o => ∃ U', o = .exit 0 U' /\ U'.s 4 = .q neg /\ U'.s 5 = .n m) (fun _ o => ∃ U', o = .ret U' /\ U'.s 2 = .n 0 /\ U'.s 3 = .q false) := by
 rw [<- Zxn _ 0]
 have j2 : t.size = t.data.toList.length := Z92 t
 refine Zw t.data.toList (fun i (acc : Nat) => ⟨upd (upd (upd (upd (fun _ => .bad) 0 (.s t)) 4 (.q neg)) 5 (.n acc)) 6 (.n i), fun _ => none, 0, 0⟩) Ycr (fun i acc => acc < 10 ^ i) _ _ 0 (by decide) (by rw [<- j2]; unfold big; omega) (fun i acc c K hc hlt hI => ?_) (fun acc K _ => ?_)
 . have j0 : i < t.size := by omega
   have hw := Zn (n := i) (by omega)
   have hp := Y1p (show i <= 17 by omega)
   unfold Ycr Lib.digitVal
   have j1 : c.toNat < 256 := c.toNat_lt
   by_cases h1 : 48 <= c.toNat /\ c.toNat <= 57
   . rw [if_pos h1]
     have g1 : ¬ ((c.toNat : Int) < 48) := by omega
     have g2 : ¬ ((57 : Int) < (c.toNat : Int)) := by omega
     have w1 : IntKind.u8.wrap ((c.toNat : Int) - 48) = ((c.toNat - 48 : Nat) : Int) := by
      rw [IntWalk.u8_in _ ⟨by omega, by omega⟩]; omega
     have w2 : IntKind.i64.wrap ((c.toNat - 48 : Nat) : Int) = ((c.toNat - 48 : Nat) : Int) := Zt (by omega) (by omega)
     have w3 : IntKind.i64.wrap ((acc : Int) * 10) = ((acc * 10 : Nat) : Int) := by rw [Zt (by omega) (by omega)]; omega
     have w4 : IntKind.i64.wrap (((acc * 10 : Nat) : Int) + ((c.toNat - 48 : Nat) : Int)) = ((acc * 10 + (c.toNat - 48) : Nat) : Int) := by rw [Zt (by omega) (by omega)]; omega
     simp only [Zc, Z22, Vp, go_sem, hc, j0, hw, g1, g2, w1, w2, w3, w4]
     exact Yen (m := 0) (by omega) hI (by omega)
   . rw [if_neg h1]
     by_cases g1 : ((c.toNat : Int) < 48)
     . simp only [Zc, Z22, Vp, go_sem, hc, j0, g1]
       exact ⟨_, rfl, _, rfl, rfl, rfl⟩
     . have g2 : ((57 : Int) < (c.toNat : Int)) := by omega
       simp only [Zc, Z22, Vp, go_sem, hc, j0, g1, g2]
       exact ⟨_, rfl, _, rfl, rfl, rfl⟩
 . have hi : ¬ t.data.toList.length < t.size := by omega
   simp only [Zc, Z22, Vp, go_sem, hi]
   exact ⟨_, rfl, _, rfl, rfl, rfl⟩
def Z2x : ACode := (.sq (.sq (.rg 0 false [.o (.mv 18 (.t 0)), .o (.len 19 true (.t 18)), .o (.bin 20 .eql (.t 19) (.k (.v (.int .i64 0)))), .o (.mv 21 (.t 20)), .g 21 false (.mv 22 (.t 0)), .g 21 false (.len 23 true (.t 22)), .g 21 false (.bin 24 .gtr (.t 23) (.k (.v (.int .i64 17)))), .o (.pick 25 (.t 21) (.k (.v (.bool true))) (.t 24)), .o (.mv 26 (.t 25)), .g 26 false (.mv 27 (.t 0)), .g 26 false (.ix 28 (.t 27) (.k (.v (.int .i64 0)))), .g 26 false (.bin 29 .eql (.t 28) (.k (.v (.int .u8 48)))), .g 26 false (.mv 30 (.t 29)), .g 30 true (.mv 31 (.t 0)), .g 30 true (.len 32 true (.t 31)), .g 30 true (.bin 33 .gtr (.t 32) (.k (.v (.int .i64 1)))), .g 30 true (.mv 34 (.t 33)), .g 34 false (.mv 35 (.t 4)), .g 30 true (.pick 36 (.t 34) (.k (.v (.bool true))) (.t 35)), .g 26 false (.pick 37 (.t 30) (.t 36) (.k (.v (.bool false)))), .o (.pick 38 (.t 26) (.k (.v (.bool true))) (.t 37))]) (.ite (.t 38) (.sq (.rg 0 false [.o (.mv 2 (.k (.v (.int .i64 0)))), .o (.mv 3 (.k (.v (.bool false))))]) .rt) .sk)) (.sq (.rg 0 false [.o (.mv 5 (.k (.v (.int .i64 0))))]) (.sq (.sq (.rg 0 false [.o (.mv 6 (.k (.v (.int .i64 0))))]) (.bl 0 (.lp [0, 4, 5, 6] Z2j))) (.sq (.sq (.rg 0 false [.o (.mv 63 (.t 4))]) (.ite (.t 63) (.rg 0 false [.o (.mv 64 (.t 5)), .o (.un 65 .neg (.t 64)), .o (.mv 5 (.t 65))]) .sk)) (.sq (.rg 0 false [.o (.mv 66 (.t 5)), .o (.mv 2 (.t 66)), .o (.mv 3 (.k (.v (.bool true))))]) .rt)))))
theorem Y0x (E : Env) (s : Nat -> A) (neg : Bool) (t : ByteArray) (ht : t.size <= big) (s0 : s 0 = .s t) (s4 : s 4 = .q neg) : ∃ U', Zg E Z2x ⟨s, fun _ => none, 0, 0⟩ = some (.ret U') /\
 (match Zte neg t.data.toList with | some m => U'.s 2 = .n (if neg then -(m : Int) else m) /\ U'.s 3 = .q true | none => U'.s 2 = .n 0 /\ U'.s 3 = .q false) := by
 have j2 := Z92 t
 have j0 : Int.toNat 0 = 0 := rfl
 have j1 : (0 : Int) <= 0 := fZ 0
 unfold Zte
 by_cases h1 : t.size = 0
 . rw [if_pos (.inl (by omega))]
   have hn : t.data.toList[0]? = none := eS (by omega)
   have g1 : ((t.size : Int) = 0) := by omega
   simp only [Z2x, go_sem, s0, s4, g1, j0, j1, hn, ite_self, show Z03 true (.ifg false .und) = some false from rfl]
   exact ⟨_, rfl, rfl, rfl⟩
 . obtain ⟨c, r, hl⟩ : ∃ c r, t.data.toList = c :: r := by
    cases hq : t.data.toList with
    | nil => rw [hq] at j2; exact absurd j2 h1
    | cons c r => exact ⟨c, r, rfl⟩
   have hn : t.data.toList[0]? = some c := by rw [hl]; rfl
   have g1 : ¬ ((t.size : Int) = 0) := by omega
   by_cases h2 : 17 < t.size
   . rw [if_pos (.inr (.inl (by omega)))]
     have g2 : (17 : Int) < (t.size : Int) := by omega
     have g3 : (1 : Int) < (t.size : Int) := by omega
     simp only [Z2x, go_sem, s0, s4, g1, g2, g3, j0, j1, hn]
     exact ⟨_, rfl, rfl, rfl⟩
   . have g2 : ¬ (17 : Int) < (t.size : Int) := by omega
     by_cases h3 : c.toNat = 48
     . have g3 : (c.toNat : Int) = 48 := by omega
       by_cases h4 : 1 < t.size
       . rw [if_pos (.inr (.inr ⟨by rw [hl]; simp; exact UInt8.toNat_inj.1 h3, .inl (by omega)⟩))]
         have g4 : (1 : Int) < (t.size : Int) := by omega
         simp only [Z2x, go_sem, s0, s4, g1, g2, g3, g4, j0, j1, hn]
         exact ⟨_, rfl, rfl, rfl⟩
       . have g4 : ¬ (1 : Int) < (t.size : Int) := by omega
         cases neg with
         | true =>
           rw [if_pos (.inr (.inr ⟨by rw [hl]; simp; exact UInt8.toNat_inj.1 h3, .inr rfl⟩))]
           simp only [Z2x, go_sem, s0, s4, g1, g2, g3, g4, j0, j1, hn]
           exact ⟨_, rfl, rfl, rfl⟩
         | false =>
           rw [if_neg (by intro h; rcases h with h | h | ⟨_, h | h⟩ <;> first | omega | cases h)]
           obtain ⟨out, lo, lp⟩ := Zey E false t (by omega)
           rw [show ((0 : Nat) : Int) = 0 from rfl] at lo
           cases hq : Lib.decFrom 0 t.data.toList with
           | some m =>
             rw [hq] at lp
             obtain ⟨U', rfl, l4, l5⟩ := lp
             have hm : m < 1000000000000000000 := Lib.decFrom_lt18 hq (by omega)
             have hw : IntKind.i64.wrap (0 - (m : Int)) = -(m : Int) := by rw [Zt (by omega) (by omega)]; omega
             simp only [Z2x, go_sem, s0, s4, g1, g2, g3, g4, j0, j1, hn, lo, l4, l5, hw]
             exact ⟨_, rfl, rfl, rfl⟩
           | none =>
             rw [hq] at lp
             obtain ⟨U', rfl, l2, l3⟩ := lp
             simp only [Z2x, go_sem, s0, s4, g1, g2, g3, g4, j0, j1, hn, lo]
             exact ⟨_, rfl, l2, l3⟩
     . have g3 : ¬ (c.toNat : Int) = 48 := by omega
       have j3 : ¬ c = 48 := fun q => h3 (by rw [q]; rfl)
       rw [if_neg (by intro h; rcases h with h | h | ⟨h, _⟩ <;> first | omega | (rw [hl] at h; simp at h; exact j3 h))]
       cases neg with
       | true =>
         obtain ⟨out, lo, lp⟩ := Zey E true t (by omega)
         rw [show ((0 : Nat) : Int) = 0 from rfl] at lo
         cases hq : Lib.decFrom 0 t.data.toList with
         | some m =>
           rw [hq] at lp
           obtain ⟨U', rfl, l4, l5⟩ := lp
           have hm : m < 1000000000000000000 := Lib.decFrom_lt18 hq (by omega)
           have hw : IntKind.i64.wrap (0 - (m : Int)) = -(m : Int) := by rw [Zt (by omega) (by omega)]; omega
           simp only [Z2x, go_sem, s0, s4, g1, g2, g3,  j0, j1, hn, lo, l4, l5, hw]
           exact ⟨_, rfl, rfl, rfl⟩
         | none =>
           rw [hq] at lp
           obtain ⟨U', rfl, l2, l3⟩ := lp
           simp only [Z2x, go_sem, s0, s4, g1, g2, g3,  j0, j1, hn, lo]
           exact ⟨_, rfl, l2, l3⟩
       | false =>
         obtain ⟨out, lo, lp⟩ := Zey E false t (by omega)
         rw [show ((0 : Nat) : Int) = 0 from rfl] at lo
         cases hq : Lib.decFrom 0 t.data.toList with
         | some m =>
           rw [hq] at lp
           obtain ⟨U', rfl, l4, l5⟩ := lp
           have hm : m < 1000000000000000000 := Lib.decFrom_lt18 hq (by omega)
           have hw : IntKind.i64.wrap (0 - (m : Int)) = -(m : Int) := by rw [Zt (by omega) (by omega)]; omega
           simp only [Z2x, go_sem, s0, s4, g1, g2, g3,  j0, j1, hn, lo, l4, l5, hw]
           exact ⟨_, rfl, rfl, rfl⟩
         | none =>
           rw [hq] at lp
           obtain ⟨U', rfl, l2, l3⟩ := lp
           simp only [Z2x, go_sem, s0, s4, g1, g2, g3,  j0, j1, hn, lo]
           exact ⟨_, rfl, l2, l3⟩
theorem Y0z (t : ByteArray) (c : UInt8) (r : List UInt8) (h : t.data.toList = c :: r) : (t.extract 1 t.size).data.toList = r := by
 rw [ByteArray.data_extract]
 simp [Array.toList_extract, h]
 have : t.size = t.data.toList.length := Z92 t
 rw [this, h]; simp
theorem Zer (E : Env) (s : Nat -> A) (neg : Bool) (t : ByteArray) (ht : t.size <= big) (s0 : s 0 = .s t) (s4 : s 4 = .q neg) : Zc0 (Zg E Z2x ⟨s, fun _ => none, 0, 0⟩) (res [.t 2, .t 3]) = some (match Zte neg t.data.toList with | some m => [.n (if neg then -(m : Int) else m), .q true] | none => [.n 0, .q false]) := by
 obtain ⟨U', e, h⟩ := Y0x E s neg t ht s0 s4
 rw [e]
 cases hq : Zte neg t.data.toList with
 | some m =>
   rw [hq] at h
   simp only [go_sem, h.1, h.2]
 | none =>
   rw [hq] at h
   simp only [go_sem, h.1, h.2]
theorem Y0h {D : Nat} (hD : 1 <= D) (t : ByteArray) (ht : t.size <= big) : den pr D Z12 [.s t] = some (match Y04 t.data.toList with | some n => [.n n, .q true] | none => [.n 0, .q false]) := by
 obtain ⟨D, rfl, hd⟩ := Zd hD
 rw [Zik]
 have j6 := Z92 t
 have j2 : Int.toNat 0 = 0 := rfl
 have j4 : Int.toNat 1 = 1 := rfl
 have j3 : (0 : Int) <= 0 := fZ 0
 have j5 : (0 : Int) <= 1 := by decide
 have j0 : Zbf.code = .sq (.rg 0 false [.o (.mv 2 (.k (.v (.int .i64 0)))), .o (.mv 3 (.k (.v (.bool false))))]) (.sq (.rg 0 false [.o (.mv 7 (.t 0)), .o (.len 8 true (.t 7)), .o (.bin 9 .gtr (.t 8) (.k (.v (.int .i64 0)))), .o (.mv 10 (.t 9)), .g 10 true (.mv 11 (.t 0)), .g 10 true (.ix 12 (.t 11) (.k (.v (.int .i64 0)))), .g 10 true (.bin 13 .eql (.t 12) (.k (.v (.int .u8 45)))), .o (.pick 14 (.t 10) (.t 13) (.k (.v (.bool false)))), .o (.mv 4 (.t 14))]) (.sq (.sq (.rg 0 false [.o (.mv 15 (.t 4))]) (.ite (.t 15) (.rg 0 false [.o (.mv 16 (.t 0)), .o (.sl 17 none (.t 16) (some (.k (.v (.int .i64 1)))) none none), .o (.mv 0 (.t 17))]) .sk)) Z2x)) := rfl
 have j1 : Zbf.res = [.t 2, .t 3] := rfl
 rw [j0, j1]
 cases hl : t.data.toList with
 | nil =>
   have hn : t.data.toList[0]? = none := by rw [hl]; rfl
   have g1 : ¬ ((0 : Int) < (t.size : Int)) := by rw [j6, hl]; simp
   simp only [go_sem, g1, j2, j3, hn, ite_self]
   rw [Zer _ _ false t ht rfl rfl, hl]
   rfl
 | cons c r =>
   have hn : t.data.toList[0]? = some c := by rw [hl]; rfl
   have g1 : ((0 : Int) < (t.size : Int)) := by rw [j6, hl]; simp
   by_cases h45 : c.toNat = 45
   . have g2 : (c.toNat : Int) = 45 := by omega
     have hc : c = 45 := UInt8.toNat_inj.1 h45
     have j7 : 1 <= t.size := by omega
     simp only [go_sem, g1, g2, j2, j4, j3, j5, hn, j7, dM, fG, if_true]
     rw [Zer _ _ true (t.extract 1 t.size) (by simp; omega) rfl rfl, Y0z t c r hl]
     subst hc
     simp only [Y04, gS, if_true, List.tail_cons]
     cases Zte true r <;> rfl
   . have g2 : ¬ (c.toNat : Int) = 45 := by omega
     have hc : ¬ c = 45 := fun q => h45 (by rw [q]; rfl)
     simp only [go_sem, g1, g2, j2, j4, j3, j5, hn]
     rw [Zer _ _ false t ht rfl rfl, hl]
     simp only [Y04, gS, dK, hc, if_false]
     cases Zte false (c :: r) <;> rfl
end Go.Vm.T
end
