/-
  Tables and what is asked, of the reference's
-/
import Derived.Test.YtcceojmajfinpaaGreatDoorFnsF
import Derived.Test.YtcceojmajfinpaaGreatDoorFnsC
import Derived.Test.YtcceojmajfinpaaGreatDoorVmD
import Derived.Test.YtcceojmajfinpaaGreatDoorVmB
section
set_option linter.unusedVariables false
set_option linter.unusedSimpArgs false
set_option linter.unusedSectionVars false
namespace Go.Vm.T
open Go.Proofs
abbrev atS (t : Tab) (id : Int) (i : Nat) : St := ⟨upd (upd (upd (fun _ => .bad) 1 (.n id)) 2 (.ptr 0 0 0)) 5 (.n i), upd (fun _ => none) 0 (cR Z1 [t.c]), 1, 0⟩
def Y8x (t : Tab) (_ : Nat) (acc : List (List Val)) (r : RowV) : List (List Val) ⊕ Unit := .inl (acc ++ [Xv t r])
theorem Zxh (t : Tab) : ∀ (rs : List RowV) (i : Nat) (acc : List (List Val)), Zz (Y8x t) i acc rs = .inl (acc ++ rs.map (Xv t))
 | [], i, acc => by simp [Zz]
 | r :: rs, i, acc => by
   unfold Zz Y8x
   simp only
   have := Zxh t rs (i + 1) (acc ++ [Xv t r])
   unfold Y8x at this
   rw [this]
   simp
abbrev alS (t : Tab) (i : Nat) (acc : List (List Val)) : St := ⟨upd (upd (upd (fun _ => .bad) 1 (.ptr 0 0 0)) 3 (.ref Zp 1 0 acc.length acc.length (decide (i = 0)))) 4 (.n i), upd (upd (fun _ => none) 0 (cR Z1 [t.c])) 1 (cS Zp (acc.map Z2r)), 2, 0⟩
variable [Pr2]
theorem Y76 (E : Env) (t : Tab) (id : Int) (hl : t.rows.length <= big) :
 Vs (Zc (Zg E Z7l) [1, 2, 5] rounds (atS t id 0)) Unit Nat (Zz (idG id) 0 () t.rows) (fun _ o => ∃ U', o = .exit 0 U') (fun i o => ∃ U', o = .ret U' /\ U'.s 4 = .n i) := by
 refine Zw t.rows (fun i _ => atS t id i) (idG id) (fun _ _ => True) _ _ () trivial hl (fun i _ x K hc hlt _ => ?_) (fun _ K _ => ?_)
 . have hr := Zu (f := RowV.c) hc
   have hw := Zn (n := i) (by unfold big at hl; omega)
   simp only [atS, Zc, Zb1, Z4h, go_sem, dL, hr, hlt, hw, idG]
   generalize decide (x.id = id) = q
   cases q with
   | true => simp only [go_sem]; exact ⟨_, rfl, _, rfl, rfl⟩
   | false => simp only [go_sem]
 . have hi : ¬ t.rows.length < t.rows.length := by omega
   simp only [atS, Zc, Zb1, Z4h, go_sem, dL, hi]
   exact ⟨_, rfl, _, rfl⟩
theorem Y51 {D : Nat} (hD : 1 <= D) (t : Tab) (id : Int) (hl : t.rows.length <= big) : den pr D Z5j [.agg t.c, .n id] = some [.n (idI id t.rows)] := by
 obtain ⟨D, rfl, hd⟩ := Zd hD
 rw [Zqd]
 obtain ⟨out, lo, lp⟩ := Y76 (aH D) t id hl
 simp only [atS] at lo
 rw [show ((0 : Nat) : Int) = 0 from rfl] at lo
 unfold idI Zrl
 cases hr : Zz (idG id) 0 () t.rows with
 | inl _ =>
   rw [hr] at lp
   obtain ⟨U', rfl⟩ := lp
   simp only [Z7h, go_sem, lo]
 | inr i =>
   rw [hr] at lp
   obtain ⟨U', rfl, l2⟩ := lp
   simp only [Z7h, go_sem, lo, l2]
theorem Y38 {D : Nat} (hD : 9 <= D) (t : Tab) (ht : SmallT t) (hs : Zm t.first = true) (hn : ∀ r ∈ t.rows, NowOk t r) :
 Vs (Zc (Zg (aH D) Z6i) [1, 3, 4] rounds (alS t 0 [])) (List (List Val)) Unit (Zz (Y8x t) 0 [] t.rows)
  (fun m o => ∃ U' ex, o = .exit 0 U' /\ U'.s 3 = cT Zp 1 m.length ex /\ U'.h 1 = cS Zp (m.map Z2r)) (fun _ o => False) := by
 refine Zw t.rows (alS t) (Y8x t) (fun i acc => acc.length = i) _ _ [] rfl ht.rlen (fun i acc r K hc hlt hI => ?_) (fun acc K hI => ?_)
 . have j2 := Zu (f := RowV.c) hc
   have hw := Zn (n := i) (by have := ht.rlen; unfold big at this; omega)
   have e1 := Zai hD t ht hs r (hn r (dU hc))
   have j1 : acc.length + 1 <= big := by have := ht.rlen; omega
   have j3 := Za Z2r acc
   have hz : decide (i + 1 = 0) = false := by simp
   unfold Y8x
   generalize Xv t r = row at *
   have j0 := Za Val.c row
   have em : (acc ++ [row]).map Z2r = acc.map Z2r ++ [Z2r row] := by simp
   have j4 : (acc ++ [row]).length = acc.length + 1 := by simp
   simp only [alS, Zc, Za8, Z3b, go_sem, dL, j2, hlt, hw, e1, j1, j3, j0, em, j4, Zj, and_self, if_true, dG, dM]
   exact hI
 . have hi : ¬ t.rows.length < t.rows.length := by omega
   simp only [alS, Zc, Za8, Z3b, go_sem, dL, hi]
   exact ⟨_, rfl, _, _, rfl, rfl, rfl⟩
theorem Y8o {D : Nat} (hD : 10 <= D) (t : Tab) (ht : SmallT t) (hs : Zm t.first = true) (hn : ∀ r ∈ t.rows, NowOk t r) : den pr D Z5u [.agg t.c] = some [.olit Zp ((t.rows.map (Xv t)).map Z2r)] := by
 obtain ⟨D, rfl, hd⟩ := Zd hD
 rw [Znf]
 obtain ⟨out, lo, lp⟩ := Y38 hd t ht hs hn
 rw [Zxh] at lp
 obtain ⟨U', ex, rfl, l1, l2⟩ := lp
 simp only [alS, eC, dH, decide_true] at lo
 rw [show ((0 : Nat) : Int) = 0 from rfl] at lo
 simp only [dF] at l1 l2
 have j1 : ((t.rows.map (Xv t)).map Z2r).take (t.rows.map (Xv t)).length = (t.rows.map (Xv t)).map Z2r := dN (by simp)
 have j0 : ((t.rows.map (Xv t)).map Z2r).length = (t.rows.map (Xv t)).length := by simp
 generalize t.rows.map (Xv t) = m at *
 simp only [Z8m, go_sem, lo, l1, l2, j1, j0, eH]
end Go.Vm.T
namespace Go.Vm.T
open Go.Proofs
variable [Pr0]
abbrev dfS (cs : List ColV) (i : Nat) (acc : List Val) : St := ⟨upd (upd (upd (fun _ => .bad) 0 (.lit Z0 (cs.map ColV.c))) 3 (.ref Z2 0 0 acc.length acc.length (decide (acc.length = 0)))) 4 (.n i), upd (fun _ => none) 0 (cS Z2 (acc.map Val.c)), 1, 0⟩
theorem Zz1 {D : Nat} (cs : List ColV) (hl : cs.length + 1 <= big) :
 Vs (Zc (Zg (aH D) Z59) [0, 3, 4] rounds (dfS cs 0 [])) (List Val) Unit (Zz (fun _ acc (c : ColV) => .inl (acc ++ [c.df])) 0 [] cs)
  (fun acc o => ∃ U' ex, o = .exit 0 U' /\ U'.s 3 = cT Z2 0 acc.length ex /\ U'.h 0 = cS Z2 (acc.map Val.c)) (fun _ o => False) := by
 refine Zw cs (dfS cs) _ (fun i acc => acc.length = i) _ _ [] rfl (by omega) (fun i acc c K hc hlt hI => ?_) (fun acc K hI => ?_)
 . have hr := Zu (f := ColV.c) hc
   have hw := Zn (n := i) (by unfold big at hl; omega)
   have j0 : acc.length + 1 <= big := by omega
   have j1 := Za Val.c acc
   have hz : decide (acc.length + 1 = 0) = false := decide_eq_false (by omega)
   simp only [dfS, Zc, Z8r, Z2i, go_sem, dL, hr, hlt, hw, j0, j1, dM, eA, eK]
   omega
 . have hi : ¬ cs.length < cs.length := by omega
   simp only [dfS, Zc, Z8r, Z2i, go_sem, dL, hi]
   exact ⟨_, rfl, _, _, rfl, rfl, rfl⟩
theorem Zsb : ∀ (cs : List ColV) (i : Nat) (acc : List Val), (Zz (fun _ acc (c : ColV) => (.inl (acc ++ [c.df]) : List Val ⊕ Unit)) i acc cs) = .inl (acc ++ cs.map ColV.df)
 | [], i, acc => by simp [Zz]
 | c :: cs, i, acc => by
   show Zz _ (i + 1) (acc ++ [c.df]) cs = _
   rw [Zsb cs (i + 1)]
   simp
theorem Y1m {D : Nat} (hD : 1 <= D) (cs : List ColV) (hl : cs.length + 1 <= big) : den pr D Z4f [.lit Z0 (cs.map ColV.c)] = some [.olit Z2 ((cs.map ColV.df).map Val.c)] := by
 obtain ⟨D, rfl, hd⟩ := Zd hD
 rw [Zkr]
 obtain ⟨out, lo, lp⟩ := Zz1 (D := D) cs hl
 rw [Zsb] at lp
 obtain ⟨U', ex, rfl, l1, l2⟩ := lp
 simp only [dfS, eC, dH, decide_true] at lo
 rw [show ((0 : Nat) : Int) = 0 from rfl] at lo
 rw [dF] at l1 l2
 generalize cs.map ColV.df = m at *
 have j0 := Za Val.c m
 simp only [Z73, go_sem, lo, l1, l2, j0, dL]
def Y9j (nm : ByteArray) (_ : Nat) (_ : Unit) (x : SetV) : Unit ⊕ Unit := bif decide (x.nm = nm) then .inr () else .inl ()
theorem Zxb (nm : ByteArray) : ∀ (l : List SetV) (i : Nat), Zz (Y9j nm) i () l = if l.any (fun x => decide (x.nm = nm)) = true then .inr () else .inl ()
 | [], i => by simp [Zz]
 | x :: l, i => by
   unfold Zz
   rw [show Y9j nm i () x = bif decide (x.nm = nm) then .inr () else .inl () from rfl]
   by_cases h : x.nm = nm
   . simp [h]
   . have := Zxb nm l (i + 1)
     simp [h, this]
def Zun (s : List ColV) (sets : List SetV) (i : Nat) (x : SetV) : Option Nat := match Z3w x.nm s with
 | some k => match s[k]? with
   | some c => if Z0i x.v = true /\ Zjg x.v c.k = true /\ (sets.take i).any (fun y => decide (y.nm = x.nm)) = false then some k else none
   | none => none
 | none => none
def Zli (s : List ColV) (sets : List SetV) (i : Nat) (acc : List Val) (x : SetV) : List Val ⊕ List Val := match Zun s sets i x with
 | some k => .inl (acc.set k x.v)
 | none => .inr acc
def Zlx (s : List ColV) (row : List Val) (sets : List SetV) : List Val × Bool := match Zz (Zli s sets) 0 row sets with
 | .inl acc => (acc, true)
 | .inr acc => (acc, false)
theorem Zgw (s : List ColV) (sets : List SetV) (hs : SmallS sets) : ∀ (l : List SetV) (i : Nat) (acc : List Val), (∀ x ∈ l, x ∈ sets) -> Vk acc -> (match Zz (Zli s sets) i acc l with
  | .inl a | .inr a => a.length = acc.length /\ Vk a)
 | [], i, acc, _, h => ⟨rfl, h⟩
 | x :: l, i, acc, hx, h => by
   unfold Zz
   unfold Zli
   cases hk : Zun s sets i x with
   | none => exact ⟨rfl, h⟩
   | some k =>
     simp only
     have h2 : Vk (acc.set k x.v) := fun v hv => by
      rcases eW hv with hv | rfl
      . exact h v hv
      . exact hs x (hx x (by simp))
     have := Zgw s sets hs l (i + 1) (acc.set k x.v) (fun y hy => hx y (by simp [hy])) h2
     unfold Zli at this
     split at this
     . rename_i a ha
       exact ⟨by rw [this.1, dI], this.2⟩
     . rename_i a ha
       exact ⟨by rw [this.1, dI], this.2⟩
theorem Zff {s : List ColV} {row : List Val} {sets : List SetV} (hs : SmallS sets) (hr : Vk row) : (Zlx s row sets).1.length = row.length /\ Vk (Zlx s row sets).1 := by
 have := Zgw s sets hs sets 0 row (fun _ h => h) hr
 unfold Zlx
 split at this
 . rename_i a ha
   exact this
 . rename_i a ha
   exact this
abbrev flS (s : List ColV) (sets : List SetV) (i : Nat) (acc : List Val) : St := ⟨upd (upd (upd (upd (fun _ => .bad) 0 (.lit Z0 (s.map ColV.c))) 2 (.lit Zk (sets.map SetV.c))) 8 (cT Z2 0 acc.length false)) 9 (.n i), upd (fun _ => none) 0 (cS Z2 (acc.map Val.c)), 1, 0⟩
abbrev Y8t (s : List ColV) (sets : List SetV) (i : Nat) (acc : List Val) (k j : Nat) : St := ⟨upd (upd (upd (upd (upd (upd (fun _ => .bad) 0 (.lit Z0 (s.map ColV.c))) 2 (.lit Zk (sets.map SetV.c))) 8 (cT Z2 0 acc.length false)) 9 (.n i)) 10 (.n k)) 11 (.n j), upd (fun _ => none) 0 (cS Z2 (acc.map Val.c)), 1, 0⟩
theorem Zuu (E : Env) (s : List ColV) (sets : List SetV) (hl : sets.length <= big) (i : Nat) (hi : i < sets.length) (x : SetV) (hx : sets[i]? = some x) (acc : List Val) (k : Nat) :
 Vs (Zc (Zg E Z52) [0, 2, 8, 9, 10, 11] rounds (Y8t s sets i acc k 0)) Unit Unit (Zz (Y9j x.nm) 0 () (sets.take i))
  (fun _ o => ∃ U', o = .exit 2 U' /\ U'.n = 1 /\ U'.base = 0 /\ U'.s 0 = .lit Z0 (s.map ColV.c) /\ U'.s 2 = .lit Zk (sets.map SetV.c) /\ U'.s 8 = cT Z2 0 acc.length false /\ U'.s 9 = .n i /\ U'.s 10 = .n k /\ U'.h = upd (fun _ => none) 0 (cS Z2 (acc.map Val.c)))
  (fun _ o => ∃ U', o = .ret U' /\ U'.s 6 = cT Z2 0 acc.length false /\ U'.s 7 = .q false /\ U'.h = upd (fun _ => none) 0 (cS Z2 (acc.map Val.c))) := by
 have j2 : (sets.take i).length = i := by simp; omega
 have j1 := Zu (f := SetV.c) hx
 refine Zw (sets.take i) (fun j _ => Y8t s sets i acc k j) (Y9j x.nm) (fun _ _ => True) _ _ () trivial (by omega) (fun j _ y K hy hlt _ => ?_) (fun _ K _ => ?_)
 . rw [j2] at hlt
   rw [cZ, if_pos hlt] at hy
   have j0 := Zu (f := SetV.c) hy
   have j5 : j < sets.length := by omega
   have hw := Zn (n := j) (by unfold big at hl; omega)
   unfold Y9j
   cases hb : decide (y.nm = x.nm) with
   | true =>
     have j4 : decide (x.nm = y.nm) = true := by have := of_decide_eq_true hb; simp [this]
     simp only [Y8t, Zc, Z5d, Z0m, go_sem, j1, j0, hlt, hb]
     exact ⟨_, rfl, _, rfl, rfl, rfl, rfl⟩
   | false =>
     have j4 : decide (x.nm = y.nm) = false := by have := of_decide_eq_false hb; simp [Ne.symm this]
     simp only [Y8t, Zc, Z5d, Z0m, go_sem, j1, j0, hlt, hw, hb]
 . rw [j2]
   have j3 : ¬ i < i := by omega
   simp only [Y8t, Zc, Z5d, Z0m, go_sem, j3]
   exact ⟨_, rfl, _, rfl, rfl, rfl, rfl, rfl, rfl, rfl, rfl, rfl⟩
set_option maxHeartbeats 4000000 in
theorem Zuv {D : Nat} (hD : 2 <= D) (s : List ColV) (hcs : s.length <= big) (sets : List SetV) (hs : SmallS sets) (hl : sets.length <= big) (row : List Val) (hr : row.length = s.length) :
 Vs (Zc (Zg (aH D) Z5p) [0, 2, 8, 9] rounds (flS s sets 0 row)) (List Val) (List Val) (Zz (Zli s sets) 0 row sets)
  (fun acc o => ∃ U', o = .exit 0 U' /\ U'.s 8 = cT Z2 0 acc.length false /\ U'.h 0 = cS Z2 (acc.map Val.c))
  (fun acc o => ∃ U', o = .ret U' /\ U'.s 6 = cT Z2 0 acc.length false /\ U'.s 7 = .q false /\ U'.h 0 = cS Z2 (acc.map Val.c)) := by
 refine Zw sets (flS s sets) (Zli s sets) (fun _ acc => acc.length = s.length) _ _ row hr hl (fun i acc x K hx hlt hI => ?_) (fun acc K hI => ?_)
 . have j1 := Zu (f := SetV.c) hx
   have hw := Zn (n := i) (by unfold big at hl; omega)
   have e1 := Zcy (show 1 <= D by omega) x.nm s hcs
   have j9 : x ∈ sets := dU hx
   have e2 := Z3f (show 2 <= D by omega) x.v (hs x j9)
   obtain ⟨xn, xk, xm, xt⟩ := x
   simp only at e1 e2
   unfold Zli
   unfold nmI at e1
   cases hat : Z3w xn s with
   | none =>
     have hset : Zun s sets i ⟨xn, xk, xm, xt⟩ = none := by unfold Zun; simp only [hat]
     rw [hset]
     rw [hat] at e1
     simp only at e1
     have m0 : (-1 : Int) < 0 := by decide
     have m1 : ¬ (0 : Int) <= -1 := by decide
     simp only [flS, Zc, Xz, X8, go_sem, dL, j1, hlt, e1, e2, m0, m1]
     exact ⟨_, rfl, _, rfl, rfl, rfl, rfl⟩
   | some k =>
     rw [hat] at e1
     simp only at e1
     have k0 : ¬ (k : Int) < 0 := by omega
     have hk := Z0q hat
     have j6 : s[k]? = some s[k] := dP hk
     have j2 := Zu (f := ColV.c) j6
     generalize s[k] = c at *
     obtain ⟨cn, ck, cd, co, cf⟩ := c
     have hset : Zun s sets i ⟨xn, xk, xm, xt⟩ = if Z0i ⟨xk, xm, xt⟩ = true /\ Zjg ⟨xk, xm, xt⟩ ck = true /\ (sets.take i).any (fun y => decide (y.nm = xn)) = false then some k else none := by unfold Zun; simp only [hat, j6]
     rw [hset]
     cases hv : Z0i ⟨xk, xm, xt⟩ with
     | false =>
       rw [hv] at e2
       simp only [flS, Zc, Xz, X8, go_sem, dL, j1, hlt, j2, e1, e2, k0, eD, false_and, if_false]
       exact ⟨_, rfl, _, rfl, rfl, rfl, rfl⟩
     | true =>
       rw [hv] at e2
       obtain ⟨out, lo, lp⟩ := Zuu (aH D) s sets hl i hlt ⟨xn, ⟨xk, xm, xt⟩⟩ hx acc k
       simp only [Y8t] at lo
       rw [show ((0 : Nat) : Int) = 0 from rfl] at lo
       by_cases hf : xk = 0 \/ xk = ck
       . have j3 : Zjg ⟨xk, xm, xt⟩ ck = true := by unfold Zjg; simpa using hf
         have j4 : k < acc.length := by omega
         have j8 : ∀ q, (if True /\ True /\ q = false then some k else none : Option Nat) = bif q then none else some k := fun q => by cases q <;> rfl
         simp only [j3, j8]
         rw [Zxb] at lp
         cases ha : (sets.take i).any (fun y => decide (y.nm = xn)) with
         | true =>
           rw [if_pos ha] at lp
           obtain ⟨U', rfl, l1, l2, l3⟩ := lp
           rcases pf (xk = 0) with h0 | h0
           . simp only [flS, Zc, Xz, X8, go_sem, dL, j1, j2, hlt, e1, e2, k0, h0, lo]
             exact ⟨_, rfl, _, rfl, l1, l2, by rw [l3]; rfl⟩
           . have j0 : (xk = ck) = True := eq_true (hf.resolve_left (by rw [h0]; exact id))
             simp only [flS, Zc, Xz, X8, go_sem, dL, j1, j2, hlt, e1, e2, k0, h0, j0, lo]
             exact ⟨_, rfl, _, rfl, l1, l2, by rw [l3]; rfl⟩
         | false =>
           rw [if_neg (by rw [ha]; decide)] at lp
           obtain ⟨U', rfl, l1, l2, l3, l4, l5, l6, l7, l8⟩ := lp
           have kt := eM k
           have kz := eL k
           have j5 : acc[k]? = some acc[k] := dP j4
           have j7 := Zu (f := Val.c) j5
           generalize acc[k] = ov at *
           obtain ⟨ok, om, ot⟩ := ov
           rcases pf (xk = 0) with h0 | h0
           . simp only [flS, Zc, Xz, X8, go_sem, dL, dI, gI, j7, j1, j2, j4, hlt, hw, e1, e2, k0, kt, kz, h0, lo, l1, l2, l3, l4, l5, l6, l7, l8]
             exact hI
           . have j0 : (xk = ck) = True := eq_true (hf.resolve_left (by rw [h0]; exact id))
             simp only [flS, Zc, Xz, X8, go_sem, dL, dI, gI, j7, j1, j2, j4, hlt, hw, e1, e2, k0, kt, kz, h0, j0, lo, l1, l2, l3, l4, l5, l6, l7, l8]
             exact hI
       . have j3 : Zjg ⟨xk, xm, xt⟩ ck = false := by unfold Zjg; simpa using hf
         have h0 : (xk = 0) = False := eq_false (fun h => hf (.inl h))
         have h1 : (xk = ck) = False := eq_false (fun h => hf (.inr h))
         simp only [flS, Zc, Xz, X8, go_sem, dL, j1, j2, hlt, e1, e2, k0, h0, h1, j3, eD, false_and, and_false, if_false]
         exact ⟨_, rfl, _, rfl, rfl, rfl, rfl⟩
 . have hi : ¬ sets.length < sets.length := by omega
   simp only [flS, Zc, Xz, X8, go_sem, dL, hi]
   exact ⟨_, rfl, _, rfl, rfl, by rfl⟩
theorem Zru {D : Nat} (hD : 3 <= D) (s : List ColV) (hcs : s.length <= big) (row : List Val) (hr : row.length = s.length) (sets : List SetV) (hs : SmallS sets) (hl : sets.length <= big) : den pr D Z1z [.lit Z0 (s.map ColV.c), .lit Z2 (row.map Val.c), .lit Zk (sets.map SetV.c)] = some [.olit Z2 ((Zlx s row sets).1.map Val.c), .q (Zlx s row sets).2] := by
 obtain ⟨D, rfl, hd⟩ := Zd hD
 rw [Zio]
 obtain ⟨out, lo, lp⟩ := Zuv (D := D) (by omega) s hcs sets hs hl row hr
 simp only [flS] at lo
 rw [show ((0 : Nat) : Int) = 0 from rfl] at lo
 have hb : row.length <= big := by omega
 unfold Zlx
 cases hrn : Zz (Zli s sets) 0 row sets with
 | inl acc =>
   rw [hrn] at lp
   obtain ⟨U', rfl, l1, l2⟩ := lp
   have j0 := Za Val.c acc
   simp only [Z4o, go_sem, lo, l1, l2, j0, hb, dL, dM]
 | inr acc =>
   rw [hrn] at lp
   obtain ⟨U', rfl, l1, l2, l3⟩ := lp
   have j0 := Za Val.c acc
   simp only [Z4o, go_sem, lo, l1, l2, l3, j0, hb, dL, dM]
end Go.Vm.T
namespace Go.Vm.T
open Go.Proofs
abbrev stS (t : Tab) (i : Nat) : St := ⟨upd (upd (upd (fun _ => .bad) 1 (.ptr 0 0 0)) 3 (.ref Z0 1 0 (Z7 t).length (Z7 t).length false)) 4 (.n i), upd (upd (fun _ => none) 0 (cR Z1 [t.c])) 1 (some ⟨Z0, (Z7 t).map ColV.c, true, false⟩), 2, 0⟩
theorem bq2 {X a : A} : (bnd (opQ false X) fun _ => some a) = some a := by
 obtain ⟨q, hq⟩ := Ya5 X
 rw [hq]
 rfl
variable [Pr2]
noncomputable abbrev Zc6 (D : Nat) (K : Nat) (U : St) : Option Out := Zc (Zg (aH D) Zre) [1, 3, 4] K U
abbrev Y8w (o : Option Out) : Prop := ∃ out, o = some out /\ ∃ U', out = .ret U' /\ U'.s 2 = .q false
def g72 : List G := [.g 67 false (.call (some 72) 2 0 Y9 [(.t 68), (.t 71)]), .g 67 false (.un 73 .not (.t 72)), .o (.pick 74 (.t 67) (.k (.v (.bool true))) (.t 73))]
noncomputable def Ydd (E : Env) (U : St) (o : Option A) : Nat -> A := match bnd (W9 false U (some 71) o none) (Ze E 2 g72) with | some O => O.s | none => U.s
theorem Y4u (E : Env) (U : St) (o : Option A) (k : Option St) (h : U.s 67 = .q true) : bnd (W9 false U (some 71) o k) (Ze E 2 [.g 67 false (.call (some 72) 2 0 Y9 [(.t 68), (.t 71)]), .g 67 false (.un 73 .not (.t 72)), .o (.pick 74 (.t 67) (.k (.v (.bool true))) (.t 73))]) = some ⟨upd (Ydd E U o) 74 (.q true), U.h, U.n, U.base⟩ := by
 have key : ∃ f, bnd (W9 false U (some 71) o none) (Ze E 2 g72) = some ⟨upd f 74 (.q true), U.h, U.n, U.base⟩ := by
  rw [Wc]
  obtain ⟨s, hp, n, b⟩ := U
  simp only at h
  simp only [g72, go_sem, h, Wc, Zb8]
  rw [bq]
  exact ⟨_, rfl⟩
 obtain ⟨f, hf⟩ := key
 have : Ydd E U o = upd f 74 (.q true) := by unfold Ydd; rw [hf]
 rw [this, Wc, <- Wc _ _ _ none]
 rw [show upd (upd f 74 (.q true)) 74 (.q true) = upd f 74 (.q true) from by funext i; simp only [Z6]; split <;> rfl]
 exact hf
structure StF (t : Tab) (i : Nat) (r : RowV) : Prop where
 hr : (t.rows.map RowV.c)[i]? = some r.c
 hlt : i < t.rows.length
 hw : IntKind.i64.wrap ((i : Int) + 1) = ((i + 1 : Nat) : Int)
theorem Ygd {D : Nat} {t : Tab} {r : RowV} (F : StF t 0 r) (K : Nat) (hb : r.ver < 0 \/ (t.chg.length : Int) < r.ver \/ r.id < 1 \/ t.next <= r.id) : Y8w (Zc6 D (K + 1) (stS t 0)) := by
 obtain ⟨hr, hlt, hw⟩ := F
 have hw1 : IntKind.i64.wrap (((0 : Nat) : Int) - 1) = -1 := by decide
 have hn : ((0 : Int) <= -1) = False := by simp
 have z0 : ((0 : Int) < ((0 : Nat) : Int)) = False := by simp
 rcases pf (r.ver < 0) with h1 | h1
 . simp only [stS, Zc6, Zc, Z15, Z0g, go_sem, dL, hr, hlt, hw1, h1, hn, z0, Z2o]
   exact ⟨_, rfl, _, rfl, rfl⟩
 rcases pf ((t.chg.length : Int) < r.ver) with h2 | h2
 . simp only [stS, Zc6, Zc, Z15, Z0g, go_sem, dL, hr, hlt, hw1, h1, h2, hn, z0, Z2o]
   exact ⟨_, rfl, _, rfl, rfl⟩
 rcases pf (r.id < 1) with h3 | h3
 . simp only [stS, Zc6, Zc, Z15, Z0g, go_sem, dL, hr, hlt, hw1, h1, h2, h3, hn, z0, Z2o]
   exact ⟨_, rfl, _, rfl, rfl⟩
 rcases pf (t.next <= r.id) with h4 | h4
 . simp only [stS, Zc6, Zc, Z15, Z0g, go_sem, dL, hr, hlt, hw1, h1, h2, h3, h4, hn, z0, Z2o]
   exact ⟨_, rfl, _, rfl, rfl⟩
 exact absurd hb (by rw [h1, h2, h3, h4]; simp)
theorem Yfl {D : Nat} {t : Tab} {j : Nat} {p r : RowV} (F : StF t (j + 1) r) (hp : (t.rows.map RowV.c)[j]? = some p.c) (hw1 : IntKind.i64.wrap (((j + 1 : Nat) : Int) - 1) = j) (K : Nat) (hb : r.ver < 0 \/ (t.chg.length : Int) < r.ver \/ r.id < 1 \/ t.next <= r.id \/ r.id <= p.id) : Y8w (Zc6 D (K + 1) (stS t (j + 1))) := by
 obtain ⟨hr, hlt, hw⟩ := F
 have j0 := eL j
 have jt := eM j
 have z0 : ((0 : Int) < ((j + 1 : Nat) : Int)) = True := by simp
 have hj : j < t.rows.length := by omega
 rcases pf (r.ver < 0) with h1 | h1
 . simp only [stS, Zc6, Zc, Z15, Z0g, go_sem, dL, hr, hlt, hw1, h1, hp, j0, jt, z0, Z2o]
   exact ⟨_, rfl, _, rfl, rfl⟩
 rcases pf ((t.chg.length : Int) < r.ver) with h2 | h2
 . simp only [stS, Zc6, Zc, Z15, Z0g, go_sem, dL, hr, hlt, hw1, h1, h2, hp, j0, jt, z0, Z2o]
   exact ⟨_, rfl, _, rfl, rfl⟩
 rcases pf (r.id < 1) with h3 | h3
 . simp only [stS, Zc6, Zc, Z15, Z0g, go_sem, dL, hr, hlt, hw1, h1, h2, h3, hp, j0, jt, z0, Z2o]
   exact ⟨_, rfl, _, rfl, rfl⟩
 rcases pf (t.next <= r.id) with h4 | h4
 . simp only [stS, Zc6, Zc, Z15, Z0g, go_sem, dL, hr, hlt, hw1, h1, h2, h3, h4, hp, j0, jt, z0, Z2o]
   exact ⟨_, rfl, _, rfl, rfl⟩
 rcases pf (r.id <= p.id) with h5 | h5
 . simp only [stS, Zc6, Zc, Z15, Z0g, go_sem, dL, hr, hlt, hw1, h1, h2, h3, h4, h5, hp, j0, jt, z0]
   exact ⟨_, rfl, _, rfl, rfl⟩
 exact absurd hb (by rw [h1, h2, h3, h4, h5]; simp)
theorem Yey {D : Nat} {t : Tab} {r : RowV} (F : StF t 0 r) (h1 : (r.ver < 0) = False) (h2 : ((t.chg.length : Int) < r.ver) = False) (h3 : (r.id < 1) = False) (h4 : (t.next <= r.id) = False) (s : List ColV) (e1 : den pr D Yl [.agg t.c, .n r.ver] = some [.olit Z0 (s.map ColV.c)]) (e4 : den pr D Y9 [.lit Z0 (s.map ColV.c), .lit Z2 (r.vals.map Val.c)] = some [.q false]) (K : Nat) : Y8w (Zc6 D (K + 1) (stS t 0)) := by
 obtain ⟨hr, hlt, hw⟩ := F
 have hw1 : IntKind.i64.wrap (((0 : Nat) : Int) - 1) = -1 := by decide
 have hn : ((0 : Int) <= -1) = False := by simp
 have z0 : ((0 : Int) < ((0 : Nat) : Int)) = False := by simp
 have hts := Za ColV.c s
 have j0 := Za ColV.c (Z7 t)
 simp only [stS, Zc6, Zc, Z15, Z0g, go_sem, dL, hr, hlt, hw1, h1, h2, h3, h4, hn, z0, e1, e4, Y4u, hts, Z9, dM, and_self, if_true, dG, dD]
 exact ⟨_, rfl, _, rfl, rfl⟩
theorem Ye0 {D : Nat} {t : Tab} {r : RowV} (F : StF t 0 r) (h1 : (r.ver < 0) = False) (h2 : ((t.chg.length : Int) < r.ver) = False) (h3 : (r.id < 1) = False) (h4 : (t.next <= r.id) = False) (s : List ColV) (e1 : den pr D Yl [.agg t.c, .n r.ver] = some [.olit Z0 (s.map ColV.c)]) (e4 : den pr D Y9 [.lit Z0 (s.map ColV.c), .lit Z2 (r.vals.map Val.c)] = some [.q true]) (row : List Val) (e5 : den pr D X2 [.agg t.c, .agg r.c] = some [.olit Z2 (row.map Val.c)]) (e6 : den pr D Y9 [.lit Z0 ((Z7 t).map ColV.c), .lit Z2 (row.map Val.c)] = some [.q false]) (K : Nat) : Y8w (Zc6 D (K + 1) (stS t 0)) := by
 obtain ⟨hr, hlt, hw⟩ := F
 have hw1 : IntKind.i64.wrap (((0 : Nat) : Int) - 1) = -1 := by decide
 have hn : ((0 : Int) <= -1) = False := by simp
 have z0 : ((0 : Int) < ((0 : Nat) : Int)) = False := by simp
 have hts := Za ColV.c s
 have j0 := Za ColV.c (Z7 t)
 have j1 := Za Val.c row
 simp only [stS, Zc6, Zc, Z15, Z0g, go_sem, dL, hr, hlt, hw1, h1, h2, h3, h4, hn, z0, e1, e4, e5, e6, j1, hts, j0, Z9, Zj, dM, and_self, if_true, dG, dD]
 exact ⟨_, rfl, _, rfl, rfl⟩
theorem Yei {D : Nat} {t : Tab} {r : RowV} (F : StF t 0 r) (h1 : (r.ver < 0) = False) (h2 : ((t.chg.length : Int) < r.ver) = False) (h3 : (r.id < 1) = False) (h4 : (t.next <= r.id) = False) (s : List ColV) (e1 : den pr D Yl [.agg t.c, .n r.ver] = some [.olit Z0 (s.map ColV.c)]) (e4 : den pr D Y9 [.lit Z0 (s.map ColV.c), .lit Z2 (r.vals.map Val.c)] = some [.q true]) (row : List Val) (e5 : den pr D X2 [.agg t.c, .agg r.c] = some [.olit Z2 (row.map Val.c)]) (e6 : den pr D Y9 [.lit Z0 ((Z7 t).map ColV.c), .lit Z2 (row.map Val.c)] = some [.q true]) (K : Nat) : Zc6 D (K + 1) (stS t 0) = Zc6 D K (stS t (0 + 1)) := by
 obtain ⟨hr, hlt, hw⟩ := F
 have hw1 : IntKind.i64.wrap (((0 : Nat) : Int) - 1) = -1 := by decide
 have hn : ((0 : Int) <= -1) = False := by simp
 have z0 : ((0 : Int) < ((0 : Nat) : Int)) = False := by simp
 have hts := Za ColV.c s
 have j0 := Za ColV.c (Z7 t)
 have j1 := Za Val.c row
 simp only [stS, Zc6, Zc, Z15, Z0g, go_sem, dL, hr, hlt, hw, hw1, h1, h2, h3, h4, hn, z0, e1, e4, e5, e6, j1, hts, j0, Z9, Zj, dM, and_self, if_true, dG, dD]
theorem Yds {D : Nat} {t : Tab} {j : Nat} {p r : RowV} (F : StF t (j + 1) r) (hp : (t.rows.map RowV.c)[j]? = some p.c) (hw1 : IntKind.i64.wrap (((j + 1 : Nat) : Int) - 1) = j) (h1 : (r.ver < 0) = False) (h2 : ((t.chg.length : Int) < r.ver) = False) (h3 : (r.id < 1) = False) (h4 : (t.next <= r.id) = False) (h5 : (r.id <= p.id) = False) (s : List ColV) (e1 : den pr D Yl [.agg t.c, .n r.ver] = some [.olit Z0 (s.map ColV.c)]) (e4 : den pr D Y9 [.lit Z0 (s.map ColV.c), .lit Z2 (r.vals.map Val.c)] = some [.q false]) (K : Nat) : Y8w (Zc6 D (K + 1) (stS t (j + 1))) := by
 obtain ⟨hr, hlt, hw⟩ := F
 have j0 := eL j
 have jt := eM j
 have z0 : ((0 : Int) < ((j + 1 : Nat) : Int)) = True := by simp
 have hj : j < t.rows.length := by omega
 have hts := Za ColV.c s
 have j1 := Za ColV.c (Z7 t)
 simp only [stS, Zc6, Zc, Z15, Z0g, go_sem, dL, hr, hlt, hw1, h1, h2, h3, h4, h5, hp, j0, jt, z0, e1, e4, Y4u, hts, Z9, dM, and_self, if_true, dG, dD]
 exact ⟨_, rfl, _, rfl, rfl⟩
theorem Yf1 {D : Nat} {t : Tab} {j : Nat} {p r : RowV} (F : StF t (j + 1) r) (hp : (t.rows.map RowV.c)[j]? = some p.c) (hw1 : IntKind.i64.wrap (((j + 1 : Nat) : Int) - 1) = j) (h1 : (r.ver < 0) = False) (h2 : ((t.chg.length : Int) < r.ver) = False) (h3 : (r.id < 1) = False) (h4 : (t.next <= r.id) = False) (h5 : (r.id <= p.id) = False) (s : List ColV) (e1 : den pr D Yl [.agg t.c, .n r.ver] = some [.olit Z0 (s.map ColV.c)]) (e4 : den pr D Y9 [.lit Z0 (s.map ColV.c), .lit Z2 (r.vals.map Val.c)] = some [.q true]) (row : List Val) (e5 : den pr D X2 [.agg t.c, .agg r.c] = some [.olit Z2 (row.map Val.c)]) (e6 : den pr D Y9 [.lit Z0 ((Z7 t).map ColV.c), .lit Z2 (row.map Val.c)] = some [.q false]) (K : Nat) : Y8w (Zc6 D (K + 1) (stS t (j + 1))) := by
 obtain ⟨hr, hlt, hw⟩ := F
 have j0 := eL j
 have jt := eM j
 have z0 : ((0 : Int) < ((j + 1 : Nat) : Int)) = True := by simp
 have hj : j < t.rows.length := by omega
 have hts := Za ColV.c s
 have j1 := Za ColV.c (Z7 t)
 have j2 := Za Val.c row
 simp only [stS, Zc6, Zc, Z15, Z0g, go_sem, dL, hr, hlt, hw1, h1, h2, h3, h4, h5, hp, j0, jt, z0, e1, e4, e5, e6, j2, hts, j1, Z9, Zj, dM, and_self, if_true, dG, dD]
 exact ⟨_, rfl, _, rfl, rfl⟩
theorem Yd1 {D : Nat} {t : Tab} {j : Nat} {p r : RowV} (F : StF t (j + 1) r) (hp : (t.rows.map RowV.c)[j]? = some p.c) (hw1 : IntKind.i64.wrap (((j + 1 : Nat) : Int) - 1) = j) (h1 : (r.ver < 0) = False) (h2 : ((t.chg.length : Int) < r.ver) = False) (h3 : (r.id < 1) = False) (h4 : (t.next <= r.id) = False) (h5 : (r.id <= p.id) = False) (s : List ColV) (e1 : den pr D Yl [.agg t.c, .n r.ver] = some [.olit Z0 (s.map ColV.c)]) (e4 : den pr D Y9 [.lit Z0 (s.map ColV.c), .lit Z2 (r.vals.map Val.c)] = some [.q true]) (row : List Val) (e5 : den pr D X2 [.agg t.c, .agg r.c] = some [.olit Z2 (row.map Val.c)]) (e6 : den pr D Y9 [.lit Z0 ((Z7 t).map ColV.c), .lit Z2 (row.map Val.c)] = some [.q true]) (K : Nat) : Zc6 D (K + 1) (stS t (j + 1)) = Zc6 D K (stS t ((j + 1) + 1)) := by
 obtain ⟨hr, hlt, hw⟩ := F
 have j0 := eL j
 have jt := eM j
 have z0 : ((0 : Int) < ((j + 1 : Nat) : Int)) = True := by simp
 have hj : j < t.rows.length := by omega
 have hts := Za ColV.c s
 have j1 := Za ColV.c (Z7 t)
 have j2 := Za Val.c row
 simp only [stS, Zc6, Zc, Z15, Z0g, go_sem, dL, hr, hlt, hw, hw1, h1, h2, h3, h4, h5, hp, j0, jt, z0, e1, e4, e5, e6, j2, hts, j1, Z9, Zj, dM, and_self, if_true, dG, dD]
theorem Zql {D : Nat} (hD : 9 <= D) (t : Tab) (ht : SmallT t) (hs : Zm t.first = true) (hall : (chgs t.first t.chg).isSome = true) :
 Vs (Zc6 D rounds (stS t 0)) Int Unit (Zz (Zc8 t) 0 0 t.rows) (fun _ o => ∃ U', o = .exit 0 U') (fun _ o => ∃ U', o = .ret U' /\ U'.s 2 = .q false) := by
 refine Zw t.rows (fun i _ => stS t i) (Zc8 t) (fun i m => 0 <= m /\ (i = 0 /\ m = 0 \/ ∃ j p, i = j + 1 /\ t.rows[j]? = some p /\ m = p.id)) _ _ 0 ⟨fZ 0, .inl ⟨rfl, rfl⟩⟩ ht.rlen (fun i m r K hc hlt hI => ?_) (fun m K hI => ?_)
 . obtain ⟨jd, hI⟩ := hI
   have hr := Zu (f := RowV.c) hc
   have hw := Zn (n := i) (by have := ht.rlen; unfold big at this; omega)
   have F : StF t i r := ⟨hr, hlt, hw⟩
   have hv := (ht.vals r (dU hc)).1
   have jc := (ht.vals r (dU hc)).2
   have hg := ht.glen
   have j1 := ht.rlen
   have je : ∀ b : Int, (i = 0 /\ m = 0 \/ ∃ j p, i = j + 1 /\ t.rows[j]? = some p /\ m = p.id) := fun _ => hI
   unfold Zc8
   cases p1 : inB r.id (m + 1) (t.next - 1) && inB r.ver 0 t.chg.length with
   | false =>
     have hb : ¬ ((m + 1 <= r.id /\ r.id <= t.next - 1) /\ 0 <= r.ver /\ r.ver <= (t.chg.length : Int)) := by
      intro h
      have : (inB r.id (m + 1) (t.next - 1) && inB r.ver 0 t.chg.length) = true := by unfold inB; simp; omega
      rw [this] at p1; cases p1
     rw [<- Bool.and_assoc, p1, fR, cond_false]
     rcases hI with ⟨rfl, rfl⟩ | ⟨j, p, rfl, hp, rfl⟩
     . exact Ygd F K (by omega)
     . exact Yfl F (Zu (f := RowV.c) hp) (by rw [show ((j + 1 : Nat) : Int) - 1 = j by omega]; exact Zt (by omega) (by unfold big at j1; omega)) K (by omega)
   | true =>
     have hb : (m + 1 <= r.id /\ r.id <= t.next - 1) /\ 0 <= r.ver /\ r.ver <= (t.chg.length : Int) := by
      unfold inB at p1; simp at p1; omega
     obtain ⟨v, j5⟩ : ∃ v : Nat, r.ver = v := ⟨r.ver.toNat, by omega⟩
     have hvl : v <= t.chg.length := by omega
     have j2 : r.ver.toNat = v := by omega
     have j4 := Zdm t.first (t.chg.take v) (t.chg.drop v)
     rw [gV] at j4
     obtain ⟨s, j0⟩ : ∃ s, chgs t.first (t.chg.take v) = some s := by
      cases hq : chgs t.first (t.chg.take v) with
      | some s => exact ⟨s, rfl⟩
      | none => rw [hq] at j4; rw [j4] at hall; cases hall
     have e1 := Zfq (show 8 <= D by omega) t ht v hvl
     unfold Z6m at e1
     rw [if_pos hs, j0, <- j5] at e1
     simp only [dB] at e1
     have j6 := Z10 hs j0
     have e4 := Z64 (show 5 <= D by omega) s r.vals (Yh j6).1 hv (by omega)
     rw [j6, eN] at e4
     have h1 : (r.ver < 0) = False := eq_false (by omega)
     have h2 : ((t.chg.length : Int) < r.ver) = False := eq_false (by omega)
     have h3 : (r.id < 1) = False := eq_false (by omega)
     have h4 : (t.next <= r.id) = False := eq_false (by omega)
     rw [<- Bool.and_assoc, p1, eN, j2, j0, dB]
     cases p3 : Z5s s r.vals with
     | false =>
       rw [p3] at e4
       simp only [fR, cond_false]
       rcases hI with ⟨rfl, rfl⟩ | ⟨j, p, rfl, hp, rfl⟩
       . exact Yey F h1 h2 h3 h4 s e1 e4 K
       . exact Yds F (Zu (f := RowV.c) hp) (by rw [show ((j + 1 : Nat) : Int) - 1 = j by omega]; exact Zt (by omega) (by unfold big at j1; omega)) h1 h2 h3 h4 (eq_false (by omega)) s e1 e4 K
     | true =>
       rw [p3] at e4
       have hN : NowOk t r := ⟨by omega, by omega, hall, by rw [j2, j0]; exact Zfb p3, hv⟩
       have e5 := Zai hD t ht hs r hN
       obtain ⟨s2, j7⟩ := eR.1 hall
       have j8 : Z7 t = s2 := by unfold Z7; rw [j7]; rfl
       have j3 : Zm (Z7 t) = true := by rw [j8]; exact Z10 hs j7
       have ja := Z2u hN
       have jb : Xv t r = Zeu s (t.chg.drop v) r.vals := by unfold Xv; rw [j2, j0]; rfl
       have j9 := Z57 (s := s) (cs := t.chg.drop v) hv (fun c hc => ht.chg c (eO hc))
       have e6 := Z64 (show 5 <= D by omega) (Z7 t) (Xv t r) (Yh j3).1 (by rw [jb]; exact j9) (by rw [ja]; have := (Yh j3).2; omega)
       rw [j3, eN] at e6
       cases p4 : Z5s (Z7 t) (Xv t r) with
       | false =>
         rw [p4] at e6
         simp only [gZ, cond_false]
         rcases hI with ⟨rfl, rfl⟩ | ⟨j, p, rfl, hp, rfl⟩
         . exact Ye0 F h1 h2 h3 h4 s e1 e4 _ e5 e6 K
         . exact Yf1 F (Zu (f := RowV.c) hp) (by rw [show ((j + 1 : Nat) : Int) - 1 = j by omega]; exact Zt (by omega) (by unfold big at j1; omega)) h1 h2 h3 h4 (eq_false (by omega)) s e1 e4 _ e5 e6 K
       | true =>
         rw [p4] at e6
         simp only [Bool.and_true, cond_true]
         refine ⟨?_, by omega, .inr ⟨i, r, rfl, hc, rfl⟩⟩
         rcases hI with ⟨rfl, rfl⟩ | ⟨j, p, rfl, hp, rfl⟩
         . exact Yei F h1 h2 h3 h4 s e1 e4 _ e5 e6 K
         . exact Yd1 F (Zu (f := RowV.c) hp) (by rw [show ((j + 1 : Nat) : Int) - 1 = j by omega]; exact Zt (by omega) (by unfold big at j1; omega)) h1 h2 h3 h4 (eq_false (by omega)) s e1 e4 _ e5 e6 K
 . have hi : ¬ t.rows.length < t.rows.length := by omega
   simp only [stS, Zc, Z15, Z0g, go_sem, dL, hi]
   exact ⟨_, rfl, _, rfl⟩
theorem Ztj {D : Nat} (hD : 10 <= D) (t : Tab) (ht : SmallT t) (hs : Zm t.first = true) (hall : (chgs t.first t.chg).isSome = true) : den pr D Y17 [.agg t.c] = some [.q (Zdj t)] := by
 obtain ⟨D, rfl, hd⟩ := Zd hD
 rw [Yd2]
 have e1 := Z30 hd t ht hs
 obtain ⟨out, lo, lp⟩ := Zql hd t ht hs hall
 simp only [stS, Zc6] at lo
 rw [show ((0 : Nat) : Int) = 0 from rfl] at lo
 unfold Zdj
 cases hq : Zz (Zc8 t) 0 0 t.rows with
 | inl m =>
   rw [hq] at lp
   obtain ⟨U', rfl⟩ := lp
   simp only [Y2k, go_sem, e1, dL, Z9, lo]
 | inr u =>
   rw [hq] at lp
   obtain ⟨U', rfl, l2⟩ := lp
   simp only [Y2k, go_sem, e1, dL, Z9, lo, l2]
end Go.Vm.T
namespace Go.Vm.T
open Go.Proofs
variable [Pr2]
def Y6s (v : Val) (_ : Nat) (_ : Unit) (y : Val) : Unit ⊕ Unit := bif !decide (v.k = 0) && decide (v = y) then .inr () else .inl ()
theorem Zw7 (v : Val) : ∀ (l : List Val) (i : Nat), Zz (Y6s v) i () l = bif !decide (v.k = 0) && decide (v ∈ l) then .inr () else .inl ()
 | [], i => by simp [Zz]
 | y :: l, i => by
   unfold Zz
   rw [show Y6s v i () y = bif !decide (v.k = 0) && decide (v = y) then .inr () else .inl () from rfl]
   have ih := Zw7 v l (i + 1)
   by_cases h0 : v.k = 0
   . simp only [h0, decide_true, Bool.not_true, fR, cond_false] at ih ⊢
     exact ih
   . by_cases h : v = y
     . simp only [h, decide_true, eG, true_or]
       rw [show decide (y.k = 0) = false from by rw [<- h]; simp [h0]]
       rfl
     . simp only [h0, h, decide_false, fQ, eN, cond_false, eG, false_or] at ih ⊢
       exact ih
def Y1g (vs : List Val) (i : Nat) (_ : Unit) (v : Val) : Unit ⊕ Unit := Zz (Y6s v) 0 () (vs.take i)
def Y5a (es : List (List Val)) (k : Nat) (_ : Unit) (c : ColV) : Unit ⊕ Unit := if c.once = true then Zz (Y1g (es.map fun r => r.getD k zV)) 0 () (es.map fun r => r.getD k zV) else .inl ()
def twB (s : List ColV) (es : List (List Val)) : Bool := match Zz (Y5a es) 0 () s with
 | .inl _ => false
 | .inr _ => true
theorem Zw0 (c : ColV) (hc : c.once = true) (vs : List Val) : ∀ (l pre keys : List Val), vs = pre ++ l -> (∀ x, x ∈ keys ↔ x ∈ pre) ->
 ((∃ ks, Zz (Zt6 c) pre.length keys l = .inl ks) /\ Zz (Y1g vs) pre.length () l = .inl ()) \/ (Zz (Zt6 c) pre.length keys l = .inr () /\ Zz (Y1g vs) pre.length () l = .inr ())
 | [], pre, keys, _, _ => .inl ⟨⟨keys, rfl⟩, rfl⟩
 | v :: l, pre, keys, hv, hk => by
   have hp : vs.take pre.length = pre := by rw [hv]; simp
   unfold Zz
   have e1 : Y1g vs pre.length () v = bif !decide (v.k = 0) && decide (v ∈ pre) then .inr () else .inl () := by
    unfold Y1g
    rw [hp, Zw7]
   have e2 : Zt6 c pre.length keys v = if v.k ≠ 0 /\ v ∈ pre then .inr () else .inl (Y0c keys v) := by
    unfold Zt6
    simp only [hc, true_and, hk v]
   rw [e1, e2]
   by_cases h : v.k ≠ 0 /\ v ∈ pre
   . right
     rw [if_pos h]
     simp [h.1, h.2]
   . rw [if_neg h]
     have hb : (!decide (v.k = 0) && decide (v ∈ pre)) = false := by
      cases q : (!decide (v.k = 0) && decide (v ∈ pre)) with
      | false => rfl
      | true => simp at q; exact absurd q h
     rw [hb, cond_false]
     simp only
     have ih := Zw0 c hc vs l (pre ++ [v]) (Y0c keys v) (by rw [hv]; simp) (fun x => by
      unfold Y0c
      split
      . rename_i j0
        rw [hk x]
        constructor
        . intro h; simp [h]
        . intro h
          rcases dS.1 h with h | h
          . exact h
          . rw [dT.1 h]; exact (hk v).1 j0
      . simp only [dS, hk x])
     rw [eA] at ih
     exact ih
theorem Zll (c : ColV) (hc : c.once = false) : ∀ (l keys : List Val) (i : Nat), ∃ ks, Zz (Zt6 c) i keys l = .inl ks
 | [], keys, i => ⟨keys, rfl⟩
 | v :: l, keys, i => by
   unfold Zz
   have e2 : Zt6 c i keys v = .inl (Y0c keys v) := by unfold Zt6; simp [hc]
   rw [e2]
   exact Zll c hc l _ _
theorem Y08 (t : Tab) : ∀ (s : List ColV) (k : Nat), Zz (Y5a (t.rows.map (Xv t))) k () s = Zz (Y0d t) k () s
 | [], k => rfl
 | c :: s, k => by
   have ih := Y08 t s (k + 1)
   have e : (t.rows.map (Xv t)).map (fun r => r.getD k zV) = Z0u t k := by unfold Z0u; simp
   have h : Y5a (t.rows.map (Xv t)) k () c = Y0d t k () c := by
    unfold Y5a Y0d Y8u
    rw [e]
    cases hc : c.once with
    | true =>
      rw [if_pos rfl]
      rcases Zw0 c hc (Z0u t k) (Z0u t k) [] [] rfl (fun x => Iff.rfl) with ⟨⟨ks, h1⟩, h2⟩ | ⟨h1, h2⟩
      . simp only [eC] at h1 h2
        rw [h1, h2]; rfl
      . simp only [eC] at h1 h2
        rw [h1, h2]; rfl
    | false =>
      obtain ⟨ks, h1⟩ := Zll c hc (Z0u t k) [] 0
      rw [h1]
      rfl
   unfold Zz
   rw [h]
   cases Y0d t k () c with
   | inl _ => exact ih
   | inr _ => rfl
theorem Y7b (t : Tab) : twB (Z7 t) (t.rows.map (Xv t)) = !Zsw t := by
 unfold twB Zsw
 rw [Y08]
 cases Zz (Y0d t) 0 () (Z7 t) <;> rfl
abbrev Y7n (s : List ColV) (es : List (List Val)) (c : Nat) : St := ⟨upd (upd (upd (fun _ => .bad) 0 (.lit Z0 (s.map ColV.c))) 1 (.lit Zp (es.map Z2r))) 5 (.n c), fun _ => none, 0, 0⟩
abbrev Y0f (s : List ColV) (es : List (List Val)) (c i : Nat) : St := ⟨upd (upd (upd (upd (fun _ => .bad) 0 (.lit Z0 (s.map ColV.c))) 1 (.lit Zp (es.map Z2r))) 5 (.n c)) 6 (.n i), fun _ => none, 0, 0⟩
abbrev Y0a (s : List ColV) (es : List (List Val)) (c i k : Nat) : St := ⟨upd (upd (upd (upd (upd (fun _ => .bad) 0 (.lit Z0 (s.map ColV.c))) 1 (.lit Zp (es.map Z2r))) 5 (.n c)) 6 (.n i)) 7 (.n k), fun _ => none, 0, 0⟩
structure TwOk (s : List ColV) (es : List (List Val)) : Prop where
 cl : s.length <= big
 el : es.length <= big
 len : ∀ r ∈ es, r.length = s.length
theorem Z8g {r : List Val} {c : Nat} (h : c < r.length) : r[c]? = some (r.getD c zV) := by
 rw [fS, dP h]; rfl
theorem Y9l (E : Env) (s : List ColV) (es : List (List Val)) (H : TwOk s es) (c i : Nat) (ri : List Val) (hi : es[i]? = some ri) (hc : c < s.length) :
 Vs (Zc (Zg E Wy) [0, 1, 5, 6, 7] rounds (Y0a s es c i 0)) Unit Unit (Zz (Y6s (ri.getD c zV)) 0 () ((es.map fun r => r.getD c zV).take i))
  (fun _ o => ∃ U', o = .exit 4 U' /\ U'.n = 0 /\ U'.base = 0 /\ U'.s 0 = .lit Z0 (s.map ColV.c) /\ U'.s 1 = .lit Zp (es.map Z2r) /\ U'.s 5 = .n c /\ U'.s 6 = .n i) (fun _ o => ∃ U', o = .ret U' /\ U'.s 4 = .q true) := by
 have j8 : i < es.length := (dQ.1 hi).1
 have j2 : ((es.map fun r => r.getD c zV).take i).length = i := by simp; omega
 have j3 := H.el
 have j7 := H.len ri (dU hi)
 refine Zw ((es.map fun r => r.getD c zV).take i) (fun k _ => Y0a s es c i k) (Y6s (ri.getD c zV)) (fun _ _ => True) _ _ () trivial (by omega) (fun k _ y K hy hlt _ => ?_) (fun _ K _ => ?_)
 . rw [j2] at hlt
   rw [cZ, if_pos hlt, eJ] at hy
   obtain ⟨rk, hk, rfl⟩ := fT.1 hy
   have j5 := H.len rk (dU hk)
   have hx := Zu (f := Z2r) hi
   have j1 := Zu (f := Z2r) hk
   have hv := Zu (f := Val.c) (Z8g (r := ri) (c := c) (by omega))
   have j0 := Zu (f := Val.c) (Z8g (r := rk) (c := c) (by omega))
   have j9 : c < ri.length := by omega
   have j6 : c < rk.length := by omega
   have j4 : k < es.length := by omega
   have hw := Zn (n := k) (by unfold big at j3; omega)
   unfold Y6s
   generalize ri.getD c zV = v at *
   generalize rk.getD c zV = w at *
   have ht : (!decide (v.k = 0) && decide (v = w)) = (!decide (v.k = 0) && decide (v = w)) := rfl
   rcases pf (v.k = 0) with p | p
   . simp only [Y0a, Zc, Z1n, V3, go_sem, hx, j1, hv, j0, hlt, hw, p, Zhh]
   . simp only [p, decide_false, fQ, eN]
     have q0 : ∀ b : Bool, decide (v = w) = b -> ∀ K, (bif b then ∃ out, Zc (Zg E Wy) [0, 1, 5, 6, 7] (K + 1) (Y0a s es c i k) = some out /\ ∃ U', out = .ret U' /\ U'.s 4 = .q true else Zc (Zg E Wy) [0, 1, 5, 6, 7] (K + 1) (Y0a s es c i k) = Zc (Zg E Wy) [0, 1, 5, 6, 7] K (Y0a s es c i (k + 1))) := by
      intro b hb K
      cases b with
      | true => simp only [Y0a, Zc, Z1n, V3, go_sem, hx, j1, hv, j0, hlt, p, Zhh, hb]; exact ⟨_, rfl, _, rfl, rfl⟩
      | false => simp only [Y0a, Zc, Z1n, V3, go_sem, hx, j1, hv, j0, hlt, hw, p, Zhh, hb]
     have q := q0 _ rfl K
     cases hb : decide (v = w) with
     | true => rw [hb] at q; simp only [cond_true] at q ⊢; exact q
     | false => rw [hb] at q; simp only [cond_false] at q ⊢; exact ⟨q, trivial⟩
 . rw [j2]
   have hi : ¬ i < i := by omega
   simp only [Y0a, Zc, Z1n, V3, go_sem, hi]
   exact ⟨_, rfl, _, rfl, rfl, rfl, rfl, rfl, rfl, rfl⟩
theorem Ya9 (E : Env) (s : List ColV) (es : List (List Val)) (H : TwOk s es) (c : Nat) (col : ColV) (hc : s[c]? = some col) (ho : col.once = true) :
 Vs (Zc (Zg E Z1l) [0, 1, 5, 6] rounds (Y0f s es c 0)) Unit Unit (Zz (Y1g (es.map fun r => r.getD c zV)) 0 () (es.map fun r => r.getD c zV))
  (fun _ o => ∃ U', o = .exit 2 U' /\ U'.n = 0 /\ U'.base = 0 /\ U'.s 0 = .lit Z0 (s.map ColV.c) /\ U'.s 1 = .lit Zp (es.map Z2r) /\ U'.s 5 = .n c) (fun _ o => ∃ U', o = .ret U' /\ U'.s 4 = .q true) := by
 have j1 : c < s.length := (dQ.1 hc).1
 have j2 := H.el
 have j0 := Zu (f := ColV.c) hc
 refine Zw (es.map fun r => r.getD c zV) (fun i _ => Y0f s es c i) (Y1g (es.map fun r => r.getD c zV)) (fun _ _ => True) _ _ () trivial (by rw [dL]; omega) (fun i _ v K hv hlt _ => ?_) (fun _ K _ => ?_)
 . rw [dL] at hlt
   rw [eJ] at hv
   obtain ⟨ri, hi, rfl⟩ := fT.1 hv
   have hw := Zn (n := i) (by unfold big at j2; omega)
   obtain ⟨out, lo, lp⟩ := Y9l E s es H c i ri hi j1
   simp only [Y0a] at lo
   rw [show ((0 : Nat) : Int) = 0 from rfl] at lo
   unfold Y1g
   cases hq : Zz (Y6s (ri.getD c zV)) 0 () ((es.map fun r => r.getD c zV).take i) with
   | inl u =>
     rw [hq] at lp
     obtain ⟨U', rfl, m1, m2, l1, l2, l3, l4⟩ := lp
     simp only [Y0f, Zc, Z05, We, go_sem, dL, j0, hlt, hw, ho, lo, m1, m2, l1, l2, l3, l4]
   | inr u =>
     rw [hq] at lp
     obtain ⟨U', rfl, l1⟩ := lp
     simp only [Y0f, Zc, Z05, We, go_sem, dL, j0, hlt, ho, lo]
     exact ⟨_, rfl, _, rfl, l1⟩
 . rw [dL]
   have hi : ¬ es.length < es.length := by omega
   simp only [Y0f, Zc, Z05, We, go_sem, dL, hi, j0]
   exact ⟨_, rfl, _, rfl, rfl, rfl, rfl, rfl, rfl⟩
theorem Y9b (E : Env) (s : List ColV) (es : List (List Val)) (H : TwOk s es) :
 Vs (Zc (Zg E Z42) [0, 1, 5] rounds (Y7n s es 0)) Unit Unit (Zz (Y5a es) 0 () s) (fun _ o => ∃ U', o = .exit 0 U') (fun _ o => ∃ U', o = .ret U' /\ U'.s 4 = .q true) := by
 have j2 := H.el
 have j0 := H.cl
 refine Zw s (fun c _ => Y7n s es c) (Y5a es) (fun _ _ => True) _ _ () trivial j0 (fun c _ col K hc hlt _ => ?_) (fun _ K _ => ?_)
 . have j1 := Zu (f := ColV.c) hc
   have hw := Zn (n := c) (by unfold big at j0; omega)
   unfold Y5a
   cases ho : col.once with
   | false =>
     have lo : ∃ U', Zc (Zg E Z1l) [0, 1, 5, 6] rounds (Y0f s es c 0) = some (.exit 2 U') /\ U'.n = 0 /\ U'.base = 0 /\ U'.s 0 = .lit Z0 (s.map ColV.c) /\ U'.s 1 = .lit Zp (es.map Z2r) /\ U'.s 5 = .n c := by
      obtain ⟨K, hK⟩ : ∃ K, rounds = K + 1 := ⟨rounds - 1, by have := Zlo j0; omega⟩
      rw [hK]
      rcases pf (0 < es.length) with hz | hz
      . simp only [Y0f, Zc, Z05, We, go_sem, dL, j1, ho, hz]
        exact ⟨_, rfl, rfl, rfl, rfl, rfl, rfl⟩
      . simp only [Y0f, Zc, Z05, We, go_sem, dL, j1, ho, hz]
        exact ⟨_, rfl, rfl, rfl, rfl, rfl, rfl⟩
     obtain ⟨U', lo, m1, m2, l1, l2, l3⟩ := lo
     simp only [Y0f] at lo
     rw [show ((0 : Nat) : Int) = 0 from rfl] at lo
     rw [if_neg (by simp)]
     simp only [Y7n, Zc, Z1k, V1, go_sem, dL, hlt, hw, lo, m1, m2, l1, l2, l3]
   | true =>
     rw [if_pos rfl]
     obtain ⟨out, lo, lp⟩ := Ya9 E s es H c col hc ho
     simp only [Y0f] at lo
     rw [show ((0 : Nat) : Int) = 0 from rfl] at lo
     cases hq : Zz (Y1g (es.map fun r => r.getD c zV)) 0 () (es.map fun r => r.getD c zV) with
     | inl u =>
       rw [hq] at lp
       obtain ⟨U', rfl, m1, m2, l1, l2, l3⟩ := lp
       simp only [Y7n, Zc, Z1k, V1, go_sem, dL, hlt, hw, lo, m1, m2, l1, l2, l3]
     | inr u =>
       rw [hq] at lp
       obtain ⟨U', rfl, l1⟩ := lp
       simp only [Y7n, Zc, Z1k, V1, go_sem, dL, hlt, lo]
       exact ⟨_, rfl, _, rfl, l1⟩
 . have hi : ¬ s.length < s.length := by omega
   simp only [Y7n, Zc, Z1k, V1, go_sem, dL, hi]
   exact ⟨_, rfl, _, rfl⟩
theorem Zmm {D : Nat} (hD : 1 <= D) (s : List ColV) (es : List (List Val)) (H : TwOk s es) : den pr D Z1g [.lit Z0 (s.map ColV.c), .lit Zp (es.map Z2r)] = some [.q (twB s es)] := by
 obtain ⟨D, rfl, hd⟩ := Zd hD
 rw [Zfx]
 obtain ⟨out, lo, lp⟩ := Y9b (aH D) s es H
 simp only [Y7n] at lo
 rw [show ((0 : Nat) : Int) = 0 from rfl] at lo
 unfold twB
 cases hq : Zz (Y5a es) 0 () s with
 | inl u =>
   rw [hq] at lp
   obtain ⟨U', rfl⟩ := lp
   simp only [Z35, go_sem, lo]
 | inr u =>
   rw [hq] at lp
   obtain ⟨U', rfl, l2⟩ := lp
   simp only [Z35, go_sem, lo, l2]
def g40 : List G := [.g 37 false (.un 40 .not (.t 39)), .o (.pick 41 (.t 37) (.k (.v (.bool true))) (.t 40))]
noncomputable def Yd3 (E : Env) (U : St) (o : Option A) : Nat -> A := match bnd (W9 false U (some 39) o none) (Ze E 0 g40) with | some O => O.s | none => U.s
theorem Yb0 (E : Env) (U : St) (o : Option A) (k : Option St) (h : U.s 37 = .q true) : bnd (W9 false U (some 39) o k) (Ze E 0 [.g 37 false (.un 40 .not (.t 39)), .o (.pick 41 (.t 37) (.k (.v (.bool true))) (.t 40))]) = some ⟨upd (Yd3 E U o) 41 (.q true), U.h, U.n, U.base⟩ := by
 have key : ∃ f, bnd (W9 false U (some 39) o none) (Ze E 0 g40) = some ⟨upd f 41 (.q true), U.h, U.n, U.base⟩ := by
  rw [Wc]
  obtain ⟨s, hp, n, b⟩ := U
  simp only at h
  simp only [g40, go_sem, h, Zb8]
  rw [bq]
  exact ⟨_, rfl⟩
 obtain ⟨f, hf⟩ := key
 have : Yd3 E U o = upd f 41 (.q true) := by unfold Yd3; rw [hf]
 rw [this, Wc, <- Wc _ _ _ none]
 rw [show upd (upd f 41 (.q true)) 41 (.q true) = upd f 41 (.q true) from by funext i; simp only [Z6]; split <;> rfl]
 exact hf
theorem Z31 {D : Nat} (hD : 11 <= D) (t : Tab) (ht : SmallT t) : den pr D Vf [.agg t.c] = some [.q (Xf t)] := by
 obtain ⟨D, rfl, hd⟩ := Zd hD
 rw [Zgl]
 have e1 := Z5k (show 7 <= D by omega) t.first t.chg ht.cols ht.chg ht.glen
 have i1 : ((8 : Int) < (t.chg.length : Int)) = ¬ (t.chg.length <= 8) := by rw [eq_iff_iff]; omega
 have i2 : ((8 : Int) < (t.rows.length : Int)) = ¬ (t.rows.length <= 8) := by rw [eq_iff_iff]; omega
 unfold Xf
 cases p1 : (Z6m t.first t.chg).isSome with
 | false =>
   rw [p1] at e1
   rw [fR]
   simp only [Xx, go_sem, e1, dL, Z9, i1, i2, Yb0]
 | true =>
   rw [p1] at e1
   have hs : Zm t.first = true := by
    unfold Z6m at p1
    split at p1
    . rename_i hs; exact hs
    . cases p1
   have j0 : (chgs t.first t.chg).isSome = true := by unfold Z6m at p1; rw [if_pos hs] at p1; exact p1
   have e3 := Ztj (show 10 <= D by omega) t ht hs j0
   have e4 := Z30 (show 9 <= D by omega) t ht hs
   have iN : inB t.next 1 60 = (!decide (t.next < 1) && !decide (60 < t.next)) := by
    unfold inB
    rw [<- decide_not, <- decide_not]
    congr 1 <;> exact decide_eq_decide.2 (by omega)
   rw [eN, iN]
   rcases pf (t.chg.length <= 8) with h1 | h1
   . rcases pf (t.rows.length <= 8) with h2 | h2
     . rcases pf (t.next < 1) with h3 | h3
       . simp only [Xx, go_sem, e1, e3, dL, Z9, i1, i2, h1, h2, h3]
       . rcases pf (60 < t.next) with h4 | h4
         . simp only [Xx, go_sem, e1, e3, dL, Z9, i1, i2, h1, h2, h3, h4]
         . cases hB : Zdj t with
           | false =>
             rw [hB] at e3
             simp only [Xx, go_sem, e1, e3, dL, Z9, i1, i2, h1, h2, h3, h4]
           | true =>
             rw [hB] at e3
             have hn : ∀ r ∈ t.rows, NowOk t r := by
              have j1 := hB
              unfold Zdj at j1
              split at j1
              . rename_i m hm
                exact Zdl hm j0 (fun r h => (ht.vals r h).1)
              . cases j1
             have e5 := Y8o (show 10 <= D by omega) t ht hs hn
             obtain ⟨s2, j2⟩ := eR.1 j0
             have j3 : Z7 t = s2 := by unfold Z7; rw [j2]; rfl
             have j4 : Zm (Z7 t) = true := by rw [j3]; exact Z10 hs j2
             have e6 := Zmm (show 1 <= D by omega) (Z7 t) (t.rows.map (Xv t)) ⟨by have := (Yh j4).2; omega, by rw [dL]; exact ht.rlen, fun r hr => by
              obtain ⟨x, hx, rfl⟩ := List.mem_map.1 hr
              exact Z2u (hn x hx)⟩
             rw [Y7b] at e6
             have e7 : (!!Zsw t) = Zsw t := Bool.not_not _
             generalize hm : t.rows.map (Xv t) = m at *
             have j5 := Za Z2r m
             have hts := Za ColV.c (Z7 t)
             simp only [Xx, go_sem, e1, e3, e4, e5, e6, e7, dL, i1, i2, h1, h2, h3, h4, j5, hts, dM, if_true, ite_self, true_and]
     . simp only [Xx, go_sem, e1, e3, dL, Z9, i1, i2, h1, h2]
   . simp only [Xx, go_sem, e1, e3, dL, Z9, i1, i2, h1]
end Go.Vm.T
namespace Go.Vm.T
open Go.Proofs
def Yav (t : Tab) (r : RowV) (_ : Nat) (acc : List (List Val)) (x : RowV) : List (List Val) ⊕ Unit := .inl (bif decide (x.id = r.id) then acc else acc ++ [Xv t x])
def Y4a (t : Tab) (r : RowV) : List RowV -> List (List Val) -> List (List Val)
 | [], acc => acc
 | x :: l, acc => Y4a t r l (bif decide (x.id = r.id) then acc else acc ++ [Xv t x])
theorem Zx6 (t : Tab) (r : RowV) : ∀ (l : List RowV) (i : Nat) (acc : List (List Val)), Zz (Yav t r) i acc l = .inl (Y4a t r l acc)
 | [], i, acc => rfl
 | x :: l, i, acc => by
   unfold Zz
   show Zz (Yav t r) (i + 1) (bif decide (x.id = r.id) then acc else acc ++ [Xv t x]) l = _
   rw [Zx6 t r l (i + 1)]
   rfl
def Zv8 (t : Tab) (r : RowV) : List (List Val) := Y4a t r t.rows [r.vals]
theorem Zrv {t : Tab} {r : RowV} {P : List Val -> Prop} : ∀ (l : List RowV) (acc : List (List Val)), (∀ x ∈ l, P (Xv t x)) -> (∀ y ∈ acc, P y) -> ∀ y ∈ Y4a t r l acc, P y
 | [], acc, _, ha => ha
 | x :: l, acc, hl, ha => Zrv l _ (fun y hy => hl y (by simp [hy])) (fun y hy => by
   cases hq : decide (x.id = r.id) with
   | true => rw [hq] at hy; exact ha y hy
   | false =>
     rw [hq] at hy
     rcases dS.1 hy with hy | hy
     . exact ha y hy
     . rw [dT.1 hy]; exact hl x (by simp))
theorem Zt7 {t : Tab} {r : RowV} : ∀ (l : List RowV) (acc : List (List Val)), (Y4a t r l acc).length <= acc.length + l.length /\ acc.length <= (Y4a t r l acc).length
 | [], acc => ⟨dM _, dM _⟩
 | x :: l, acc => by
   have := Zt7 (t := t) (r := r) l (bif decide (x.id = r.id) then acc else acc ++ [Xv t x])
   unfold Y4a
   cases hq : decide (x.id = r.id) with
   | true => rw [hq] at this; simp only [cond_true, eB] at this ⊢; omega
   | false => rw [hq] at this; simp only [cond_false, eB, eA, eC] at this ⊢; omega
abbrev acS (t : Tab) (s : List ColV) (r : RowV) (i : Nat) (acc : List (List Val)) : St := ⟨upd (upd (upd (upd (upd (fun _ => .bad) 2 (.ptr 0 0 0)) 3 (.ptr 1 0 0)) 5 (cT Z0 2 s.length false)) 6 (.ref Zp 3 0 acc.length acc.length (decide (acc.length = 1)))) 7 (.n i), upd (upd (upd (upd (fun _ => none) 0 (cR Z1 [t.c])) 1 (cR Z4 [r.c])) 2 (cS Z0 (s.map ColV.c))) 3 (cS Zp (acc.map Z2r)), 4, 0⟩
variable [Pr2]
set_option maxHeartbeats 4000000 in
theorem Zvk {D : Nat} (hD : 9 <= D) (t : Tab) (ht : SmallT t) (hs : Zm t.first = true) (hn : ∀ x ∈ t.rows, NowOk t x) (hl8 : t.rows.length <= 100) (s : List ColV) (r : RowV) :
 Vs (Zc (Zg (aH D) Z5b) [2, 3, 5, 6, 7] rounds (acS t s r 0 [r.vals])) (List (List Val)) Unit (Zz (Yav t r) 0 [r.vals] t.rows)
  (fun m o => ∃ U' exc ex, o = .exit 0 U' /\ U'.s 3 = .ptr 1 0 0 /\ U'.s 5 = cT Z0 2 s.length exc /\ U'.s 6 = cT Zp 3 m.length ex /\ U'.h 1 = cR Z4 [r.c] /\ U'.h 2 = cS Z0 (s.map ColV.c) /\ U'.h 3 = cS Zp (m.map Z2r)) (fun _ o => False) := by
 refine Zw t.rows (acS t s r) (Yav t r) (fun i acc => acc.length <= i + 1 /\ 1 <= acc.length) _ _ [r.vals] ⟨by simp, by simp⟩ ht.rlen (fun i acc x K hc hlt hI => ?_) (fun acc K hI => ?_)
 . have j1 := Zu (f := RowV.c) hc
   have hw := Zn (n := i) (by omega)
   have e1 := Zai hD t ht hs x (hn x (dU hc))
   have j2 : acc.length + 1 <= big := by unfold big; omega
   have j3 := Za Z2r acc
   have hz : decide (acc.length = 0) = false := decide_eq_false (by omega)
   unfold Yav
   generalize Xv t x = row at *
   have j0 := Za Val.c row
   have em : (acc ++ [row]).map Z2r = acc.map Z2r ++ [Z2r row] := by simp
   have j4 : (acc ++ [row]).length = acc.length + 1 := by simp
   obtain ⟨xi, xv, xs⟩ := x
   obtain ⟨ri, rv, rs⟩ := r
   rcases pf (xi = ri) with h0 | h0
   . simp only [acS, Zc, Z5m, Z0k, go_sem, dL, j1, hlt, hw, e1, j0, h0, Zj]
     omega
   . simp only [acS, Zc, Z5m, Z0k, go_sem, dL, j1, hlt, hw, e1, j2, j3, j0, em, j4, hz, h0, Zj, and_self, if_true, dG, dM]
     omega
 . have hi : ¬ t.rows.length < t.rows.length := by omega
   simp only [acS, Zc, Z5m, Z0k, go_sem, dL, hi]
   exact ⟨_, rfl, _, _, _, rfl, rfl, rfl, rfl, rfl, rfl, rfl⟩
def Y96 (t : Tab) (r : RowV) : Int := if (Zm (Z7 t) && Z5s (Z7 t) r.vals) = true then if twB (Z7 t) (Zv8 t r) = true then 3 else 0 else 2
set_option maxHeartbeats 4000000 in
theorem Zs0 {D : Nat} (hD : 10 <= D) (t : Tab) (ht : SmallT t) (hs : Zm t.first = true) (hall : (chgs t.first t.chg).isSome = true) (hn : ∀ x ∈ t.rows, NowOk t x) (hl8 : t.rows.length <= 100) (r : RowV) (hr : r.vals.length = (Z7 t).length) (hv : Vk r.vals) :
 den pr D Z25 [.agg t.c, .agg r.c] = some [.n (Y96 t r)] := by
 obtain ⟨D, rfl, hd⟩ := Zd hD
 rw [Zid]
 have e1 := Z30 (show 9 <= D by omega) t ht hs
 have j2 : SmallC (Z7 t) /\ (Z7 t).length + 1 <= big := by
  unfold Z7
  cases hq : chgs t.first t.chg with
  | none => rw [hq] at hall; cases hall
  | some s' => exact Z2q ⟨ht.cols, ht.clen⟩ hq
 have j5 := j2.2
 have e2 := Z64 (show 5 <= D by omega) (Z7 t) r.vals j2.1 hv (by omega)
 have j3 := Zt7 (t := t) (r := r) t.rows [r.vals]
 have e3 := Zmm (show 1 <= D by omega) (Z7 t) (Zv8 t r) ⟨by omega, by have := j3.1; unfold Zv8; simp at this; unfold big; omega, Zrv (P := fun y => y.length = (Z7 t).length) t.rows [r.vals] (fun x hx => Z2u (hn x hx)) (fun y hy => by rw [dT.1 hy]; exact hr)⟩
 obtain ⟨out, lo, lp⟩ := Zvk hd t ht hs hn hl8 (Z7 t) r
 rw [Zx6] at lp
 obtain ⟨U', j6, ex, rfl, l1, l2, l3, l4, l5, l6⟩ := lp
 simp only [acS, eC, eB, dH, eV, decide_true] at lo
 rw [show ((0 : Nat) : Int) = 0 from rfl] at lo
 unfold Y96
 rw [show Y4a t r t.rows [r.vals] = Zv8 t r from rfl] at l3 l6
 generalize Zv8 t r = es at *
 generalize Z7 t = s at *
 have j0 := Za ColV.c s
 have j1 := Za Z2r es
 have j4 := Za Val.c r.vals
 cases hq : (Zm s && Z5s s r.vals) with
 | false =>
   rw [hq] at e2
   simp only [Z2h, go_sem, e1, e2, lo, l1, l2, l3, l4, l5, l6, j0, j1, Z9, dL, dM]
 | true =>
   rw [hq] at e2
   cases hw : twB s es with
   | false =>
     rw [hw] at e3
     simp only [Z2h, go_sem, e1, e2, e3, lo, l1, l2, l3, l4, l5, l6, j0, j1, Z9, dL, dM]
     | true =>
     rw [hw] at e3
     simp only [Z2h, go_sem, e1, e2, e3, lo, l1, l2, l3, l4, l5, l6, j0, j1, Z9, dL, dM]
 end Go.Vm.T
namespace Go.Vm.T
open Go.Proofs
variable [Pr2]
end Go.Vm.T
namespace Go.Vm
theorem Zc5 (base : Nat) (h : Hp) (ns : List Nat) : ∀ (bs : List Nat) (h' : Hp) (k : Nat), (∀ i, k <= i -> h' i = none) -> Z6y base h h' ns bs k = fun i => if i < k then h' i else match bs[i - k]? with | some b => (h b).map (Z48 base ns) | none => none
 | [], h', k, hn => by
   funext i
   unfold Z6y
   by_cases hi : i < k
   . rw [if_pos hi]
   . rw [if_neg hi, hn i (by omega)]; simp
 | b :: bs, h', k, hn => by
   unfold Z6y
   cases hb : h b with
   | none =>
     simp only
     rw [Zc5 base h ns bs h' (k + 1) fun i hi => hn i (by omega)]
     funext i
     rcases Nat.lt_trichotomy i k with hi | hi | hi
     . simp [hi, show i < k + 1 by omega]
     . subst hi
       simp [hb, hn i (dM i)]
     . rw [if_neg (by omega), if_neg (by omega), show i - k = (i - (k + 1)) + 1 by omega, fJ]
   | some blk =>
     simp only
     rw [Zc5 base h ns bs _ (k + 1) fun i hi => by rw [Z6, if_neg (by omega)]; exact hn i (by omega)]
     funext i
     rcases Nat.lt_trichotomy i k with hi | hi | hi
     . rw [if_pos (by omega), if_pos hi, Z6, if_neg (by omega)]
     . subst hi
       simp [hb, Z6]
     . rw [if_neg (by omega), if_neg (by omega), show i - k = (i - (k + 1)) + 1 by omega, fJ]
def Z8w (base : Nat) (h : Hp) (ns : List Nat) : Hp := fun i => if i < base then h i else match ns[i - base]? with
 | some b => (h b).map (Z48 base ns)
 | none => none
theorem Y2p {L : List Nat} {U : St} {ns : List Nat} (hr : Z2k U.base U.h 2 (W7 U.base U.s [] L) = ns) (hc : Zfi U.base U.h ns = true) :
 canon L U = some ⟨W3 U.base ns U.s (fun _ => .bad) L, Z8w U.base U.h ns, U.base + ns.length, U.base⟩ := by
 unfold canon Zeo
 rw [hr, hc, cond_true]
 congr 2
 rw [Zc5 U.base U.h ns ns (low U.base U.h) U.base fun i hi => by unfold low; rw [if_neg (by omega)]]
 funext i
 unfold Z8w low
 by_cases hi : i < U.base
 . simp [hi]
 . simp [hi]
end Go.Vm
end
