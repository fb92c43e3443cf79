/-
  Tables and what is asked, of the reference's
-/
import Derived.Test.YtcceojmajfinpaaGreatDoorFnsF
import Derived.Test.YtcceojmajfinpaaGreatDoorFnsC
import Derived.Test.YtcceojmajfinpaaGreatDoorVmD
import Derived.Test.YtcceojmajfinpaaGreatDoorVmB
section
set_option linter.unusedVariables false
set_option linter.unusedSimpArgs false
set_option linter.unusedSectionVars false
namespace Go.Vm.T
open Go.Proofs
abbrev atS (t : Tab) (id : Int) (i : Nat) : St := ⟨upd (upd (upd (fun _ => .bad) 1 (.n id)) 2 (.ptr 0 0 0)) 5 (.n i), upd (fun _ => none) 0 (cT Z1 [t.c]), 1, 0⟩
def Y77 (t : Tab) (_ : Nat) (acc : List (List Val)) (r : RowV) : List (List Val) ⊕ Unit := .inl (acc ++ [Wf t r])
theorem Zvk (t : Tab) : ∀ (rs : List RowV) (i : Nat) (acc : List (List Val)), Zv (Y77 t) i acc rs = .inl (acc ++ rs.map (Wf t))
 | [], i, acc => by simp [Zv]
 | r :: rs, i, acc => by
   unfold Zv Y77
   simp only
   have := Zvk t rs (i + 1) (acc ++ [Wf t r])
   unfold Y77 at this
   rw [this]
   simp
abbrev alS (t : Tab) (i : Nat) (acc : List (List Val)) : St := ⟨upd (upd (upd (fun _ => .bad) 1 (.ptr 0 0 0)) 3 (.ref Zm 1 0 acc.length acc.length (decide (i = 0)))) 4 (.n i), upd (upd (fun _ => none) 0 (cT Z1 [t.c])) 1 (cU Zm (acc.map Z2d)), 2, 0⟩
variable [Pr2]
theorem Y5f (E : Env) (t : Tab) (id : Int) (hl : t.rows.length <= big) :
 Vg (Zd (Zj E Z7o) [1, 2, 5] rounds (atS t id 0)) Unit Nat (Zv (idG id) 0 () t.rows) (fun _ o => ∃ U', o = .exit 0 U') (fun i o => ∃ U', o = .ret U' /\ U'.s 4 = .n i) := by
 refine Zt t.rows (fun i _ => atS t id i) (idG id) (fun _ _ => True) _ _ () trivial hl (fun i _ x K hc hlt _ => ?_) (fun _ K _ => ?_)
 . have hr := Zq (f := RowV.c) hc
   have hw := Zk (n := i) (by unfold big at hl; omega)
   simp only [atS, Zd, Zb1, Z4b, go_sem, dN, hr, hlt, hw, idG]
   generalize decide (x.id = id) = q
   cases q with
   | true => simp only [go_sem]; exact ⟨_, rfl, _, rfl, rfl⟩
   | false => simp only [go_sem]
 . have hi : ¬ t.rows.length < t.rows.length := by omega
   simp only [atS, Zd, Zb1, Z4b, go_sem, dN, hi]
   exact ⟨_, rfl, _, rfl⟩
theorem Y34 {D : Nat} (hD : 1 <= D) (t : Tab) (id : Int) (hl : t.rows.length <= big) : den pr D Z57 [.agg t.c, .n id] = some [.n (idI id t.rows)] := by
 obtain ⟨D, rfl, hd⟩ := Zc hD
 rw [Zof]
 obtain ⟨out, lo, lp⟩ := Y5f (aH D) t id hl
 simp only [atS] at lo
 rw [show ((0 : Nat) : Int) = 0 from rfl] at lo
 unfold idI Zpj
 cases hr : Zv (idG id) 0 () t.rows with
 | inl _ =>
   rw [hr] at lp
   obtain ⟨U', rfl⟩ := lp
   simp only [Z7k, go_sem, lo]
 | inr i =>
   rw [hr] at lp
   obtain ⟨U', rfl, l2⟩ := lp
   simp only [Z7k, go_sem, lo, l2]
theorem Y1c {D : Nat} (hD : 9 <= D) (t : Tab) (ht : SmallT t) (hs : Zl t.first = true) (hn : ∀ r ∈ t.rows, NowOk t r) :
 Vg (Zd (Zj (aH D) Z6f) [1, 3, 4] rounds (alS t 0 [])) (List (List Val)) Unit (Zv (Y77 t) 0 [] t.rows)
  (fun m o => ∃ U' ex, o = .exit 0 U' /\ U'.s 3 = cV Zm 1 m.length ex /\ U'.h 1 = cU Zm (m.map Z2d)) (fun _ o => False) := by
 refine Zt t.rows (alS t) (Y77 t) (fun i acc => acc.length = i) _ _ [] rfl ht.rlen (fun i acc r K hc hlt hI => ?_) (fun acc K hI => ?_)
 . have j2 := Zq (f := RowV.c) hc
   have hw := Zk (n := i) (by have := ht.rlen; unfold big at this; omega)
   have e1 := Zce hD t ht hs r (hn r (dY hc))
   have j1 : acc.length + 1 <= big := by have := ht.rlen; omega
   have j3 := Zb Z2d acc
   have hz : decide (i + 1 = 0) = false := by simp
   unfold Y77
   generalize Wf t r = row at *
   have j0 := Zb Val.c row
   have em : (acc ++ [row]).map Z2d = acc.map Z2d ++ [Z2d row] := by simp
   have j4 : (acc ++ [row]).length = acc.length + 1 := by simp
   simp only [alS, Zd, Zac, Z2x, go_sem, dN, j2, hlt, hw, e1, j1, j3, j0, em, j4, Zp, and_self, if_true, dI, dO]
   exact hI
 . have hi : ¬ t.rows.length < t.rows.length := by omega
   simp only [alS, Zd, Zac, Z2x, go_sem, dN, hi]
   exact ⟨_, rfl, _, _, rfl, rfl, rfl⟩
theorem Y70 {D : Nat} (hD : 10 <= D) (t : Tab) (ht : SmallT t) (hs : Zl t.first = true) (hn : ∀ r ∈ t.rows, NowOk t r) : den pr D Z5i [.agg t.c] = some [.olit Zm ((t.rows.map (Wf t)).map Z2d)] := by
 obtain ⟨D, rfl, hd⟩ := Zc hD
 rw [Zlr]
 obtain ⟨out, lo, lp⟩ := Y1c hd t ht hs hn
 rw [Zvk] at lp
 obtain ⟨U', ex, rfl, l1, l2⟩ := lp
 simp only [alS, eG, dJ, decide_true] at lo
 rw [show ((0 : Nat) : Int) = 0 from rfl] at lo
 simp only [dH] at l1 l2
 have j1 : ((t.rows.map (Wf t)).map Z2d).take (t.rows.map (Wf t)).length = (t.rows.map (Wf t)).map Z2d := dP (by simp)
 have j0 : ((t.rows.map (Wf t)).map Z2d).length = (t.rows.map (Wf t)).length := by simp
 generalize t.rows.map (Wf t) = m at *
 simp only [Z8k, go_sem, lo, l1, l2, j1, j0, eL]
end Go.Vm.T
namespace Go.Vm.T
open Go.Proofs
variable [Pr0]
abbrev dfS (cs : List ColV) (i : Nat) (acc : List Val) : St := ⟨upd (upd (upd (fun _ => .bad) 0 (.lit Z0 (cs.map ColV.c))) 3 (.ref Z2 0 0 acc.length acc.length (decide (acc.length = 0)))) 4 (.n i), upd (fun _ => none) 0 (cU Z2 (acc.map Val.c)), 1, 0⟩
theorem Zx5 {D : Nat} (cs : List ColV) (hl : cs.length + 1 <= big) :
 Vg (Zd (Zj (aH D) Z4y) [0, 3, 4] rounds (dfS cs 0 [])) (List Val) Unit (Zv (fun _ acc (c : ColV) => .inl (acc ++ [c.df])) 0 [] cs)
  (fun acc o => ∃ U' ex, o = .exit 0 U' /\ U'.s 3 = cV Z2 0 acc.length ex /\ U'.h 0 = cU Z2 (acc.map Val.c)) (fun _ o => False) := by
 refine Zt cs (dfS cs) _ (fun i acc => acc.length = i) _ _ [] rfl (by omega) (fun i acc c K hc hlt hI => ?_) (fun acc K hI => ?_)
 . have hr := Zq (f := ColV.c) hc
   have hw := Zk (n := i) (by unfold big at hl; omega)
   have j0 : acc.length + 1 <= big := by omega
   have j1 := Zb Val.c acc
   have hz : decide (acc.length + 1 = 0) = false := decide_eq_false (by omega)
   simp only [dfS, Zd, Z8q, Z24, go_sem, dN, hr, hlt, hw, j0, j1, dO, eE, eO]
   omega
 . have hi : ¬ cs.length < cs.length := by omega
   simp only [dfS, Zd, Z8q, Z24, go_sem, dN, hi]
   exact ⟨_, rfl, _, _, rfl, rfl, rfl⟩
theorem Zq7 : ∀ (cs : List ColV) (i : Nat) (acc : List Val), (Zv (fun _ acc (c : ColV) => (.inl (acc ++ [c.df]) : List Val ⊕ Unit)) i acc cs) = .inl (acc ++ cs.map ColV.df)
 | [], i, acc => by simp [Zv]
 | c :: cs, i, acc => by
   show Zv _ (i + 1) (acc ++ [c.df]) cs = _
   rw [Zq7 cs (i + 1)]
   simp
theorem Zzs {D : Nat} (hD : 1 <= D) (cs : List ColV) (hl : cs.length + 1 <= big) : den pr D Z48 [.lit Z0 (cs.map ColV.c)] = some [.olit Z2 ((cs.map ColV.df).map Val.c)] := by
 obtain ⟨D, rfl, hd⟩ := Zc hD
 rw [Zjv]
 obtain ⟨out, lo, lp⟩ := Zx5 (D := D) cs hl
 rw [Zq7] at lp
 obtain ⟨U', ex, rfl, l1, l2⟩ := lp
 simp only [dfS, eG, dJ, decide_true] at lo
 rw [show ((0 : Nat) : Int) = 0 from rfl] at lo
 rw [dH] at l1 l2
 generalize cs.map ColV.df = m at *
 have j0 := Zb Val.c m
 simp only [Z75, go_sem, lo, l1, l2, j0, dN]
def Y7p (nm : ByteArray) (_ : Nat) (_ : Unit) (x : SetV) : Unit ⊕ Unit := bif decide (x.nm = nm) then .inr () else .inl ()
theorem Zve (nm : ByteArray) : ∀ (l : List SetV) (i : Nat), Zv (Y7p nm) i () l = if l.any (fun x => decide (x.nm = nm)) = true then .inr () else .inl ()
 | [], i => by simp [Zv]
 | x :: l, i => by
   unfold Zv
   rw [show Y7p nm i () x = bif decide (x.nm = nm) then .inr () else .inl () from rfl]
   by_cases h : x.nm = nm
   . simp [h]
   . have := Zve nm l (i + 1)
     simp [h, this]
def Zsv (s : List ColV) (sets : List SetV) (i : Nat) (x : SetV) : Option Nat := match Z6s x.nm s with
 | some k => match s[k]? with
   | some c => if Z1b x.v = true /\ Zix x.v c.k = true /\ (sets.take i).any (fun y => decide (y.nm = x.nm)) = false then some k else none
   | none => none
 | none => none
def Zkg (s : List ColV) (sets : List SetV) (i : Nat) (acc : List Val) (x : SetV) : List Val ⊕ List Val := match Zsv s sets i x with
 | some k => .inl (acc.set k x.v)
 | none => .inr acc
def Zkw (s : List ColV) (row : List Val) (sets : List SetV) : List Val × Bool := match Zv (Zkg s sets) 0 row sets with
 | .inl acc => (acc, true)
 | .inr acc => (acc, false)
theorem Zgm (s : List ColV) (sets : List SetV) (hs : SmallS sets) : ∀ (l : List SetV) (i : Nat) (acc : List Val), (∀ x ∈ l, x ∈ sets) -> V9 acc -> (match Zv (Zkg s sets) i acc l with
  | .inl a | .inr a => a.length = acc.length /\ V9 a)
 | [], i, acc, _, h => ⟨rfl, h⟩
 | x :: l, i, acc, hx, h => by
   unfold Zv
   unfold Zkg
   cases hk : Zsv s sets i x with
   | none => exact ⟨rfl, h⟩
   | some k =>
     simp only
     have h2 : V9 (acc.set k x.v) := fun v hv => by
      rcases fB hv with hv | rfl
      . exact h v hv
      . exact hs x (hx x (by simp))
     have := Zgm s sets hs l (i + 1) (acc.set k x.v) (fun y hy => hx y (by simp [hy])) h2
     unfold Zkg at this
     split at this
     . rename_i a ha
       exact ⟨by rw [this.1, dK], this.2⟩
     . rename_i a ha
       exact ⟨by rw [this.1, dK], this.2⟩
theorem Zf5 {s : List ColV} {row : List Val} {sets : List SetV} (hs : SmallS sets) (hr : V9 row) : (Zkw s row sets).1.length = row.length /\ V9 (Zkw s row sets).1 := by
 have := Zgm s sets hs sets 0 row (fun _ h => h) hr
 unfold Zkw
 split at this
 . rename_i a ha
   exact this
 . rename_i a ha
   exact this
abbrev flS (s : List ColV) (sets : List SetV) (i : Nat) (acc : List Val) : St := ⟨upd (upd (upd (upd (fun _ => .bad) 0 (.lit Z0 (s.map ColV.c))) 2 (.lit Zh (sets.map SetV.c))) 8 (cV Z2 0 acc.length false)) 9 (.n i), upd (fun _ => none) 0 (cU Z2 (acc.map Val.c)), 1, 0⟩
abbrev Y74 (s : List ColV) (sets : List SetV) (i : Nat) (acc : List Val) (k j : Nat) : St := ⟨upd (upd (upd (upd (upd (upd (fun _ => .bad) 0 (.lit Z0 (s.map ColV.c))) 2 (.lit Zh (sets.map SetV.c))) 8 (cV Z2 0 acc.length false)) 9 (.n i)) 10 (.n k)) 11 (.n j), upd (fun _ => none) 0 (cU Z2 (acc.map Val.c)), 1, 0⟩
theorem Zt1 (E : Env) (s : List ColV) (sets : List SetV) (hl : sets.length <= big) (i : Nat) (hi : i < sets.length) (x : SetV) (hx : sets[i]? = some x) (acc : List Val) (k : Nat) :
 Vg (Zd (Zj E Z4t) [0, 2, 8, 9, 10, 11] rounds (Y74 s sets i acc k 0)) Unit Unit (Zv (Y7p x.nm) 0 () (sets.take i))
  (fun _ o => ∃ U', o = .exit 2 U' /\ U'.n = 1 /\ U'.base = 0 /\ U'.s 0 = .lit Z0 (s.map ColV.c) /\ U'.s 2 = .lit Zh (sets.map SetV.c) /\ U'.s 8 = cV Z2 0 acc.length false /\ U'.s 9 = .n i /\ U'.s 10 = .n k /\ U'.h = upd (fun _ => none) 0 (cU Z2 (acc.map Val.c)))
  (fun _ o => ∃ U', o = .ret U' /\ U'.s 6 = cV Z2 0 acc.length false /\ U'.s 7 = .q false /\ U'.h = upd (fun _ => none) 0 (cU Z2 (acc.map Val.c))) := by
 have j2 : (sets.take i).length = i := by simp; omega
 have j1 := Zq (f := SetV.c) hx
 refine Zt (sets.take i) (fun j _ => Y74 s sets i acc k j) (Y7p x.nm) (fun _ _ => True) _ _ () trivial (by omega) (fun j _ y K hy hlt _ => ?_) (fun _ K _ => ?_)
 . rw [j2] at hlt
   rw [dB, if_pos hlt] at hy
   have j0 := Zq (f := SetV.c) hy
   have j5 : j < sets.length := by omega
   have hw := Zk (n := j) (by unfold big at hl; omega)
   unfold Y7p
   cases hb : decide (y.nm = x.nm) with
   | true =>
     have j4 : decide (x.nm = y.nm) = true := by have := of_decide_eq_true hb; simp [this]
     simp only [Y74, Zd, Z52, Z0b, go_sem, j1, j0, hlt, hb]
     exact ⟨_, rfl, _, rfl, rfl, rfl, rfl⟩
   | false =>
     have j4 : decide (x.nm = y.nm) = false := by have := of_decide_eq_false hb; simp [Ne.symm this]
     simp only [Y74, Zd, Z52, Z0b, go_sem, j1, j0, hlt, hw, hb]
 . rw [j2]
   have j3 : ¬ i < i := by omega
   simp only [Y74, Zd, Z52, Z0b, go_sem, j3]
   exact ⟨_, rfl, _, rfl, rfl, rfl, rfl, rfl, rfl, rfl, rfl, rfl⟩
set_option maxHeartbeats 4000000 in
theorem Zt2 {D : Nat} (hD : 2 <= D) (s : List ColV) (hcs : s.length <= big) (sets : List SetV) (hs : SmallS sets) (hl : sets.length <= big) (row : List Val) (hr : row.length = s.length) :
 Vg (Zd (Zj (aH D) Z5b) [0, 2, 8, 9] rounds (flS s sets 0 row)) (List Val) (List Val) (Zv (Zkg s sets) 0 row sets)
  (fun acc o => ∃ U', o = .exit 0 U' /\ U'.s 8 = cV Z2 0 acc.length false /\ U'.h 0 = cU Z2 (acc.map Val.c))
  (fun acc o => ∃ U', o = .ret U' /\ U'.s 6 = cV Z2 0 acc.length false /\ U'.s 7 = .q false /\ U'.h 0 = cU Z2 (acc.map Val.c)) := by
 refine Zt sets (flS s sets) (Zkg s sets) (fun _ acc => acc.length = s.length) _ _ row hr hl (fun i acc x K hx hlt hI => ?_) (fun acc K hI => ?_)
 . have j1 := Zq (f := SetV.c) hx
   have hw := Zk (n := i) (by unfold big at hl; omega)
   have e1 := Ze2 (show 1 <= D by omega) x.nm s hcs
   have j9 : x ∈ sets := dY hx
   have e2 := Z5h (show 2 <= D by omega) x.v (hs x j9)
   obtain ⟨xn, xk, xm, xt⟩ := x
   simp only at e1 e2
   unfold Zkg
   unfold nmI at e1
   cases hat : Z6s xn s with
   | none =>
     have hset : Zsv s sets i ⟨xn, xk, xm, xt⟩ = none := by unfold Zsv; simp only [hat]
     rw [hset]
     rw [hat] at e1
     simp only at e1
     have m0 : (-1 : Int) < 0 := by decide
     have m1 : ¬ (0 : Int) <= -1 := by decide
     simp only [flS, Zd, Xq, X5, go_sem, dN, j1, hlt, e1, e2, m0, m1]
     exact ⟨_, rfl, _, rfl, rfl, rfl, rfl⟩
   | some k =>
     rw [hat] at e1
     simp only at e1
     have k0 : ¬ (k : Int) < 0 := by omega
     have hk := Z0p hat
     have j6 : s[k]? = some s[k] := dS hk
     have j2 := Zq (f := ColV.c) j6
     generalize s[k] = c at *
     obtain ⟨cn, ck, cd, co, cf⟩ := c
     have hset : Zsv s sets i ⟨xn, xk, xm, xt⟩ = if Z1b ⟨xk, xm, xt⟩ = true /\ Zix ⟨xk, xm, xt⟩ ck = true /\ (sets.take i).any (fun y => decide (y.nm = xn)) = false then some k else none := by unfold Zsv; simp only [hat, j6]
     rw [hset]
     cases hv : Z1b ⟨xk, xm, xt⟩ with
     | false =>
       rw [hv] at e2
       simp only [flS, Zd, Xq, X5, go_sem, dN, j1, hlt, j2, e1, e2, k0, eH, false_and, if_false]
       exact ⟨_, rfl, _, rfl, rfl, rfl, rfl⟩
     | true =>
       rw [hv] at e2
       obtain ⟨out, lo, lp⟩ := Zt1 (aH D) s sets hl i hlt ⟨xn, ⟨xk, xm, xt⟩⟩ hx acc k
       simp only [Y74] at lo
       rw [show ((0 : Nat) : Int) = 0 from rfl] at lo
       by_cases hf : xk = 0 \/ xk = ck
       . have j3 : Zix ⟨xk, xm, xt⟩ ck = true := by unfold Zix; simpa using hf
         have j4 : k < acc.length := by omega
         have j8 : ∀ q, (if True /\ True /\ q = false then some k else none : Option Nat) = bif q then none else some k := fun q => by cases q <;> rfl
         simp only [j3, j8]
         rw [Zve] at lp
         cases ha : (sets.take i).any (fun y => decide (y.nm = xn)) with
         | true =>
           rw [if_pos ha] at lp
           obtain ⟨U', rfl, l1, l2, l3⟩ := lp
           rcases pf (xk = 0) with h0 | h0
           . simp only [flS, Zd, Xq, X5, go_sem, dN, j1, j2, hlt, e1, e2, k0, h0, lo]
             exact ⟨_, rfl, _, rfl, l1, l2, by rw [l3]; rfl⟩
           . have j0 : (xk = ck) = True := eq_true (hf.resolve_left (by rw [h0]; exact id))
             simp only [flS, Zd, Xq, X5, go_sem, dN, j1, j2, hlt, e1, e2, k0, h0, j0, lo]
             exact ⟨_, rfl, _, rfl, l1, l2, by rw [l3]; rfl⟩
         | false =>
           rw [if_neg (by rw [ha]; decide)] at lp
           obtain ⟨U', rfl, l1, l2, l3, l4, l5, l6, l7, l8⟩ := lp
           have kt := eQ k
           have kz := eP k
           have j5 : acc[k]? = some acc[k] := dS j4
           have j7 := Zq (f := Val.c) j5
           generalize acc[k] = ov at *
           obtain ⟨ok, om, ot⟩ := ov
           rcases pf (xk = 0) with h0 | h0
           . simp only [flS, Zd, Xq, X5, go_sem, dN, dK, gN, j7, j1, j2, j4, hlt, hw, e1, e2, k0, kt, kz, h0, lo, l1, l2, l3, l4, l5, l6, l7, l8]
             exact hI
           . have j0 : (xk = ck) = True := eq_true (hf.resolve_left (by rw [h0]; exact id))
             simp only [flS, Zd, Xq, X5, go_sem, dN, dK, gN, j7, j1, j2, j4, hlt, hw, e1, e2, k0, kt, kz, h0, j0, lo, l1, l2, l3, l4, l5, l6, l7, l8]
             exact hI
       . have j3 : Zix ⟨xk, xm, xt⟩ ck = false := by unfold Zix; simpa using hf
         have h0 : (xk = 0) = False := eq_false (fun h => hf (.inl h))
         have h1 : (xk = ck) = False := eq_false (fun h => hf (.inr h))
         simp only [flS, Zd, Xq, X5, go_sem, dN, j1, j2, hlt, e1, e2, k0, h0, h1, j3, eH, false_and, and_false, if_false]
         exact ⟨_, rfl, _, rfl, rfl, rfl, rfl⟩
 . have hi : ¬ sets.length < sets.length := by omega
   simp only [flS, Zd, Xq, X5, go_sem, dN, hi]
   exact ⟨_, rfl, _, rfl, rfl, by rfl⟩
theorem Zps {D : Nat} (hD : 3 <= D) (s : List ColV) (hcs : s.length <= big) (row : List Val) (hr : row.length = s.length) (sets : List SetV) (hs : SmallS sets) (hl : sets.length <= big) : den pr D Z1m [.lit Z0 (s.map ColV.c), .lit Z2 (row.map Val.c), .lit Zh (sets.map SetV.c)] = some [.olit Z2 ((Zkw s row sets).1.map Val.c), .q (Zkw s row sets).2] := by
 obtain ⟨D, rfl, hd⟩ := Zc hD
 rw [Zif]
 obtain ⟨out, lo, lp⟩ := Zt2 (D := D) (by omega) s hcs sets hs hl row hr
 simp only [flS] at lo
 rw [show ((0 : Nat) : Int) = 0 from rfl] at lo
 have hb : row.length <= big := by omega
 unfold Zkw
 cases hrn : Zv (Zkg s sets) 0 row sets with
 | inl acc =>
   rw [hrn] at lp
   obtain ⟨U', rfl, l1, l2⟩ := lp
   have j0 := Zb Val.c acc
   simp only [Z4i, go_sem, lo, l1, l2, j0, hb, dN, dO]
 | inr acc =>
   rw [hrn] at lp
   obtain ⟨U', rfl, l1, l2, l3⟩ := lp
   have j0 := Zb Val.c acc
   simp only [Z4i, go_sem, lo, l1, l2, l3, j0, hb, dN, dO]
end Go.Vm.T
namespace Go.Vm.T
open Go.Proofs
abbrev stS (t : Tab) (i : Nat) : St := ⟨upd (upd (upd (fun _ => .bad) 1 (.ptr 0 0 0)) 3 (.ref Z0 1 0 (Z9 t).length (Z9 t).length false)) 4 (.n i), upd (upd (fun _ => none) 0 (cT Z1 [t.c])) 1 (some ⟨Z0, (Z9 t).map ColV.c, true, false⟩), 2, 0⟩
theorem bq2 {X a : A} : (bnd (opQ false X) fun _ => some a) = some a := by
 obtain ⟨q, hq⟩ := Y89 X
 rw [hq]
 rfl
variable [Pr2]
noncomputable abbrev Zc5 (D : Nat) (K : Nat) (U : St) : Option Out := Zd (Zj (aH D) Zol) [1, 3, 4] K U
abbrev Y76 (o : Option Out) : Prop := ∃ out, o = some out /\ ∃ U', out = .ret U' /\ U'.s 2 = .q false
def g72 : List G := [.g 67 false (.call (some 72) 2 0 Zw [(.t 68), (.t 71)]), .g 67 false (.un 73 .not (.t 72)), .o (.pick 74 (.t 67) (.k (.v (.bool true))) (.t 73))]
noncomputable def Ybk (E : Env) (U : St) (o : Option A) : Nat -> A := match bnd (Xv false U (some 71) o none) (Ze E 2 g72) with | some O => O.s | none => U.s
theorem Y2x (E : Env) (U : St) (o : Option A) (k : Option St) (h : U.s 67 = .q true) : bnd (Xv false U (some 71) o k) (Ze E 2 [.g 67 false (.call (some 72) 2 0 Zw [(.t 68), (.t 71)]), .g 67 false (.un 73 .not (.t 72)), .o (.pick 74 (.t 67) (.k (.v (.bool true))) (.t 73))]) = some ⟨upd (Ybk E U o) 74 (.q true), U.h, U.n, U.base⟩ := by
 have key : ∃ f, bnd (Xv false U (some 71) o none) (Ze E 2 g72) = some ⟨upd f 74 (.q true), U.h, U.n, U.base⟩ := by
  rw [Wj]
  obtain ⟨s, hp, n, b⟩ := U
  simp only at h
  simp only [g72, go_sem, h, Wj, Zba]
  rw [bq]
  exact ⟨_, rfl⟩
 obtain ⟨f, hf⟩ := key
 have : Ybk E U o = upd f 74 (.q true) := by unfold Ybk; rw [hf]
 rw [this, Wj, <- Wj _ _ _ none]
 rw [show upd (upd f 74 (.q true)) 74 (.q true) = upd f 74 (.q true) from by funext i; simp only [Z7]; split <;> rfl]
 exact hf
structure StF (t : Tab) (i : Nat) (r : RowV) : Prop where
 hr : (t.rows.map RowV.c)[i]? = some r.c
 hlt : i < t.rows.length
 hw : IntKind.i64.wrap ((i : Int) + 1) = ((i + 1 : Nat) : Int)
theorem Yek {D : Nat} {t : Tab} {r : RowV} (F : StF t 0 r) (K : Nat) (hb : r.ver < 0 \/ (t.chg.length : Int) < r.ver \/ r.id < 1 \/ t.next <= r.id) : Y76 (Zc5 D (K + 1) (stS t 0)) := by
 obtain ⟨hr, hlt, hw⟩ := F
 have hw1 : IntKind.i64.wrap (((0 : Nat) : Int) - 1) = -1 := by decide
 have hn : ((0 : Int) <= -1) = False := by simp
 have z0 : ((0 : Int) < ((0 : Nat) : Int)) = False := by simp
 rcases pf (r.ver < 0) with h1 | h1
 . simp only [stS, Zc5, Zd, Z0n, Z05, go_sem, dN, hr, hlt, hw1, h1, hn, z0, Z8l]
   exact ⟨_, rfl, _, rfl, rfl⟩
 rcases pf ((t.chg.length : Int) < r.ver) with h2 | h2
 . simp only [stS, Zc5, Zd, Z0n, Z05, go_sem, dN, hr, hlt, hw1, h1, h2, hn, z0, Z8l]
   exact ⟨_, rfl, _, rfl, rfl⟩
 rcases pf (r.id < 1) with h3 | h3
 . simp only [stS, Zc5, Zd, Z0n, Z05, go_sem, dN, hr, hlt, hw1, h1, h2, h3, hn, z0, Z8l]
   exact ⟨_, rfl, _, rfl, rfl⟩
 rcases pf (t.next <= r.id) with h4 | h4
 . simp only [stS, Zc5, Zd, Z0n, Z05, go_sem, dN, hr, hlt, hw1, h1, h2, h3, h4, hn, z0, Z8l]
   exact ⟨_, rfl, _, rfl, rfl⟩
 exact absurd hb (by rw [h1, h2, h3, h4]; simp)
theorem Ydv {D : Nat} {t : Tab} {j : Nat} {p r : RowV} (F : StF t (j + 1) r) (hp : (t.rows.map RowV.c)[j]? = some p.c) (hw1 : IntKind.i64.wrap (((j + 1 : Nat) : Int) - 1) = j) (K : Nat) (hb : r.ver < 0 \/ (t.chg.length : Int) < r.ver \/ r.id < 1 \/ t.next <= r.id \/ r.id <= p.id) : Y76 (Zc5 D (K + 1) (stS t (j + 1))) := by
 obtain ⟨hr, hlt, hw⟩ := F
 have j0 := eP j
 have jt := eQ j
 have z0 : ((0 : Int) < ((j + 1 : Nat) : Int)) = True := by simp
 have hj : j < t.rows.length := by omega
 rcases pf (r.ver < 0) with h1 | h1
 . simp only [stS, Zc5, Zd, Z0n, Z05, go_sem, dN, hr, hlt, hw1, h1, hp, j0, jt, z0, Z8l]
   exact ⟨_, rfl, _, rfl, rfl⟩
 rcases pf ((t.chg.length : Int) < r.ver) with h2 | h2
 . simp only [stS, Zc5, Zd, Z0n, Z05, go_sem, dN, hr, hlt, hw1, h1, h2, hp, j0, jt, z0, Z8l]
   exact ⟨_, rfl, _, rfl, rfl⟩
 rcases pf (r.id < 1) with h3 | h3
 . simp only [stS, Zc5, Zd, Z0n, Z05, go_sem, dN, hr, hlt, hw1, h1, h2, h3, hp, j0, jt, z0, Z8l]
   exact ⟨_, rfl, _, rfl, rfl⟩
 rcases pf (t.next <= r.id) with h4 | h4
 . simp only [stS, Zc5, Zd, Z0n, Z05, go_sem, dN, hr, hlt, hw1, h1, h2, h3, h4, hp, j0, jt, z0, Z8l]
   exact ⟨_, rfl, _, rfl, rfl⟩
 rcases pf (r.id <= p.id) with h5 | h5
 . simp only [stS, Zc5, Zd, Z0n, Z05, go_sem, dN, hr, hlt, hw1, h1, h2, h3, h4, h5, hp, j0, jt, z0]
   exact ⟨_, rfl, _, rfl, rfl⟩
 exact absurd hb (by rw [h1, h2, h3, h4, h5]; simp)
theorem Yd9 {D : Nat} {t : Tab} {r : RowV} (F : StF t 0 r) (h1 : (r.ver < 0) = False) (h2 : ((t.chg.length : Int) < r.ver) = False) (h3 : (r.id < 1) = False) (h4 : (t.next <= r.id) = False) (s : List ColV) (e1 : den pr D Yg [.agg t.c, .n r.ver] = some [.olit Z0 (s.map ColV.c)]) (e4 : den pr D Zw [.lit Z0 (s.map ColV.c), .lit Z2 (r.vals.map Val.c)] = some [.q false]) (K : Nat) : Y76 (Zc5 D (K + 1) (stS t 0)) := by
 obtain ⟨hr, hlt, hw⟩ := F
 have hw1 : IntKind.i64.wrap (((0 : Nat) : Int) - 1) = -1 := by decide
 have hn : ((0 : Int) <= -1) = False := by simp
 have z0 : ((0 : Int) < ((0 : Nat) : Int)) = False := by simp
 have hts := Zb ColV.c s
 have j0 := Zb ColV.c (Z9 t)
 simp only [stS, Zc5, Zd, Z0n, Z05, go_sem, dN, hr, hlt, hw1, h1, h2, h3, h4, hn, z0, e1, e4, Y2x, hts, Za, dO, and_self, if_true, dI, dF]
 exact ⟨_, rfl, _, rfl, rfl⟩
theorem Yc7 {D : Nat} {t : Tab} {r : RowV} (F : StF t 0 r) (h1 : (r.ver < 0) = False) (h2 : ((t.chg.length : Int) < r.ver) = False) (h3 : (r.id < 1) = False) (h4 : (t.next <= r.id) = False) (s : List ColV) (e1 : den pr D Yg [.agg t.c, .n r.ver] = some [.olit Z0 (s.map ColV.c)]) (e4 : den pr D Zw [.lit Z0 (s.map ColV.c), .lit Z2 (r.vals.map Val.c)] = some [.q true]) (row : List Val) (e5 : den pr D Xa [.agg t.c, .agg r.c] = some [.olit Z2 (row.map Val.c)]) (e6 : den pr D Zw [.lit Z0 ((Z9 t).map ColV.c), .lit Z2 (row.map Val.c)] = some [.q false]) (K : Nat) : Y76 (Zc5 D (K + 1) (stS t 0)) := by
 obtain ⟨hr, hlt, hw⟩ := F
 have hw1 : IntKind.i64.wrap (((0 : Nat) : Int) - 1) = -1 := by decide
 have hn : ((0 : Int) <= -1) = False := by simp
 have z0 : ((0 : Int) < ((0 : Nat) : Int)) = False := by simp
 have hts := Zb ColV.c s
 have j0 := Zb ColV.c (Z9 t)
 have j1 := Zb Val.c row
 simp only [stS, Zc5, Zd, Z0n, Z05, go_sem, dN, hr, hlt, hw1, h1, h2, h3, h4, hn, z0, e1, e4, e5, e6, j1, hts, j0, Za, Zp, dO, and_self, if_true, dI, dF]
 exact ⟨_, rfl, _, rfl, rfl⟩
theorem Ycs {D : Nat} {t : Tab} {r : RowV} (F : StF t 0 r) (h1 : (r.ver < 0) = False) (h2 : ((t.chg.length : Int) < r.ver) = False) (h3 : (r.id < 1) = False) (h4 : (t.next <= r.id) = False) (s : List ColV) (e1 : den pr D Yg [.agg t.c, .n r.ver] = some [.olit Z0 (s.map ColV.c)]) (e4 : den pr D Zw [.lit Z0 (s.map ColV.c), .lit Z2 (r.vals.map Val.c)] = some [.q true]) (row : List Val) (e5 : den pr D Xa [.agg t.c, .agg r.c] = some [.olit Z2 (row.map Val.c)]) (e6 : den pr D Zw [.lit Z0 ((Z9 t).map ColV.c), .lit Z2 (row.map Val.c)] = some [.q true]) (K : Nat) : Zc5 D (K + 1) (stS t 0) = Zc5 D K (stS t (0 + 1)) := by
 obtain ⟨hr, hlt, hw⟩ := F
 have hw1 : IntKind.i64.wrap (((0 : Nat) : Int) - 1) = -1 := by decide
 have hn : ((0 : Int) <= -1) = False := by simp
 have z0 : ((0 : Int) < ((0 : Nat) : Int)) = False := by simp
 have hts := Zb ColV.c s
 have j0 := Zb ColV.c (Z9 t)
 have j1 := Zb Val.c row
 simp only [stS, Zc5, Zd, Z0n, Z05, go_sem, dN, hr, hlt, hw, hw1, h1, h2, h3, h4, hn, z0, e1, e4, e5, e6, j1, hts, j0, Za, Zp, dO, and_self, if_true, dI, dF]
theorem Yc1 {D : Nat} {t : Tab} {j : Nat} {p r : RowV} (F : StF t (j + 1) r) (hp : (t.rows.map RowV.c)[j]? = some p.c) (hw1 : IntKind.i64.wrap (((j + 1 : Nat) : Int) - 1) = j) (h1 : (r.ver < 0) = False) (h2 : ((t.chg.length : Int) < r.ver) = False) (h3 : (r.id < 1) = False) (h4 : (t.next <= r.id) = False) (h5 : (r.id <= p.id) = False) (s : List ColV) (e1 : den pr D Yg [.agg t.c, .n r.ver] = some [.olit Z0 (s.map ColV.c)]) (e4 : den pr D Zw [.lit Z0 (s.map ColV.c), .lit Z2 (r.vals.map Val.c)] = some [.q false]) (K : Nat) : Y76 (Zc5 D (K + 1) (stS t (j + 1))) := by
 obtain ⟨hr, hlt, hw⟩ := F
 have j0 := eP j
 have jt := eQ j
 have z0 : ((0 : Int) < ((j + 1 : Nat) : Int)) = True := by simp
 have hj : j < t.rows.length := by omega
 have hts := Zb ColV.c s
 have j1 := Zb ColV.c (Z9 t)
 simp only [stS, Zc5, Zd, Z0n, Z05, go_sem, dN, hr, hlt, hw1, h1, h2, h3, h4, h5, hp, j0, jt, z0, e1, e4, Y2x, hts, Za, dO, and_self, if_true, dI, dF]
 exact ⟨_, rfl, _, rfl, rfl⟩
theorem Yda {D : Nat} {t : Tab} {j : Nat} {p r : RowV} (F : StF t (j + 1) r) (hp : (t.rows.map RowV.c)[j]? = some p.c) (hw1 : IntKind.i64.wrap (((j + 1 : Nat) : Int) - 1) = j) (h1 : (r.ver < 0) = False) (h2 : ((t.chg.length : Int) < r.ver) = False) (h3 : (r.id < 1) = False) (h4 : (t.next <= r.id) = False) (h5 : (r.id <= p.id) = False) (s : List ColV) (e1 : den pr D Yg [.agg t.c, .n r.ver] = some [.olit Z0 (s.map ColV.c)]) (e4 : den pr D Zw [.lit Z0 (s.map ColV.c), .lit Z2 (r.vals.map Val.c)] = some [.q true]) (row : List Val) (e5 : den pr D Xa [.agg t.c, .agg r.c] = some [.olit Z2 (row.map Val.c)]) (e6 : den pr D Zw [.lit Z0 ((Z9 t).map ColV.c), .lit Z2 (row.map Val.c)] = some [.q false]) (K : Nat) : Y76 (Zc5 D (K + 1) (stS t (j + 1))) := by
 obtain ⟨hr, hlt, hw⟩ := F
 have j0 := eP j
 have jt := eQ j
 have z0 : ((0 : Int) < ((j + 1 : Nat) : Int)) = True := by simp
 have hj : j < t.rows.length := by omega
 have hts := Zb ColV.c s
 have j1 := Zb ColV.c (Z9 t)
 have j2 := Zb Val.c row
 simp only [stS, Zc5, Zd, Z0n, Z05, go_sem, dN, hr, hlt, hw1, h1, h2, h3, h4, h5, hp, j0, jt, z0, e1, e4, e5, e6, j2, hts, j1, Za, Zp, dO, and_self, if_true, dI, dF]
 exact ⟨_, rfl, _, rfl, rfl⟩
theorem Yb8 {D : Nat} {t : Tab} {j : Nat} {p r : RowV} (F : StF t (j + 1) r) (hp : (t.rows.map RowV.c)[j]? = some p.c) (hw1 : IntKind.i64.wrap (((j + 1 : Nat) : Int) - 1) = j) (h1 : (r.ver < 0) = False) (h2 : ((t.chg.length : Int) < r.ver) = False) (h3 : (r.id < 1) = False) (h4 : (t.next <= r.id) = False) (h5 : (r.id <= p.id) = False) (s : List ColV) (e1 : den pr D Yg [.agg t.c, .n r.ver] = some [.olit Z0 (s.map ColV.c)]) (e4 : den pr D Zw [.lit Z0 (s.map ColV.c), .lit Z2 (r.vals.map Val.c)] = some [.q true]) (row : List Val) (e5 : den pr D Xa [.agg t.c, .agg r.c] = some [.olit Z2 (row.map Val.c)]) (e6 : den pr D Zw [.lit Z0 ((Z9 t).map ColV.c), .lit Z2 (row.map Val.c)] = some [.q true]) (K : Nat) : Zc5 D (K + 1) (stS t (j + 1)) = Zc5 D K (stS t ((j + 1) + 1)) := by
 obtain ⟨hr, hlt, hw⟩ := F
 have j0 := eP j
 have jt := eQ j
 have z0 : ((0 : Int) < ((j + 1 : Nat) : Int)) = True := by simp
 have hj : j < t.rows.length := by omega
 have hts := Zb ColV.c s
 have j1 := Zb ColV.c (Z9 t)
 have j2 := Zb Val.c row
 simp only [stS, Zc5, Zd, Z0n, Z05, go_sem, dN, hr, hlt, hw, hw1, h1, h2, h3, h4, h5, hp, j0, jt, z0, e1, e4, e5, e6, j2, hts, j1, Za, Zp, dO, and_self, if_true, dI, dF]
theorem Zoj {D : Nat} (hD : 9 <= D) (t : Tab) (ht : SmallT t) (hs : Zl t.first = true) (hall : (chgs t.first t.chg).isSome = true) :
 Vg (Zc5 D rounds (stS t 0)) Int Unit (Zv (Zc8 t) 0 0 t.rows) (fun _ o => ∃ U', o = .exit 0 U') (fun _ o => ∃ U', o = .ret U' /\ U'.s 2 = .q false) := by
 refine Zt t.rows (fun i _ => stS t i) (Zc8 t) (fun i m => 0 <= m /\ (i = 0 /\ m = 0 \/ ∃ j p, i = j + 1 /\ t.rows[j]? = some p /\ m = p.id)) _ _ 0 ⟨gU 0, .inl ⟨rfl, rfl⟩⟩ ht.rlen (fun i m r K hc hlt hI => ?_) (fun m K hI => ?_)
 . obtain ⟨jd, hI⟩ := hI
   have hr := Zq (f := RowV.c) hc
   have hw := Zk (n := i) (by have := ht.rlen; unfold big at this; omega)
   have F : StF t i r := ⟨hr, hlt, hw⟩
   have hv := (ht.vals r (dY hc)).1
   have jc := (ht.vals r (dY hc)).2
   have hg := ht.glen
   have j1 := ht.rlen
   have je : ∀ b : Int, (i = 0 /\ m = 0 \/ ∃ j p, i = j + 1 /\ t.rows[j]? = some p /\ m = p.id) := fun _ => hI
   unfold Zc8
   cases p1 : inB r.id (m + 1) (t.next - 1) && inB r.ver 0 t.chg.length with
   | false =>
     have hb : ¬ ((m + 1 <= r.id /\ r.id <= t.next - 1) /\ 0 <= r.ver /\ r.ver <= (t.chg.length : Int)) := by
      intro h
      have : (inB r.id (m + 1) (t.next - 1) && inB r.ver 0 t.chg.length) = true := by unfold inB; simp; omega
      rw [this] at p1; cases p1
     rw [<- Bool.and_assoc, p1, gF, cond_false]
     rcases hI with ⟨rfl, rfl⟩ | ⟨j, p, rfl, hp, rfl⟩
     . exact Yek F K (by omega)
     . exact Ydv F (Zq (f := RowV.c) hp) (by rw [show ((j + 1 : Nat) : Int) - 1 = j by omega]; exact wrap_i64 (by omega) (by unfold big at j1; omega)) K (by omega)
   | true =>
     have hb : (m + 1 <= r.id /\ r.id <= t.next - 1) /\ 0 <= r.ver /\ r.ver <= (t.chg.length : Int) := by
      unfold inB at p1; simp at p1; omega
     obtain ⟨v, j5⟩ : ∃ v : Nat, r.ver = v := ⟨r.ver.toNat, by omega⟩
     have hvl : v <= t.chg.length := by omega
     have j2 : r.ver.toNat = v := by omega
     have j4 := Zdh t.first (t.chg.take v) (t.chg.drop v)
     rw [List.take_append_drop] at j4
     obtain ⟨s, j0⟩ : ∃ s, chgs t.first (t.chg.take v) = some s := by
      cases hq : chgs t.first (t.chg.take v) with
      | some s => exact ⟨s, rfl⟩
      | none => rw [hq] at j4; rw [j4] at hall; cases hall
     have e1 := Zfg (show 8 <= D by omega) t ht v hvl
     unfold Z6k at e1
     rw [if_pos hs, j0, <- j5] at e1
     simp only [dD] at e1
     have j6 := Z0h hs j0
     have e4 := Z5v (show 5 <= D by omega) s r.vals (Yq j6).1 hv (by omega)
     rw [j6, eZ] at e4
     have h1 : (r.ver < 0) = False := eq_false (by omega)
     have h2 : ((t.chg.length : Int) < r.ver) = False := eq_false (by omega)
     have h3 : (r.id < 1) = False := eq_false (by omega)
     have h4 : (t.next <= r.id) = False := eq_false (by omega)
     rw [<- Bool.and_assoc, p1, eZ, j2, j0, dD]
     cases p3 : Z5e s r.vals with
     | false =>
       rw [p3] at e4
       simp only [gF, cond_false]
       rcases hI with ⟨rfl, rfl⟩ | ⟨j, p, rfl, hp, rfl⟩
       . exact Yd9 F h1 h2 h3 h4 s e1 e4 K
       . exact Yc1 F (Zq (f := RowV.c) hp) (by rw [show ((j + 1 : Nat) : Int) - 1 = j by omega]; exact wrap_i64 (by omega) (by unfold big at j1; omega)) h1 h2 h3 h4 (eq_false (by omega)) s e1 e4 K
     | true =>
       rw [p3] at e4
       have hN : NowOk t r := ⟨by omega, by omega, hall, by rw [j2, j0]; exact Zf1 p3, hv⟩
       have e5 := Zce hD t ht hs r hN
       obtain ⟨s2, j7⟩ := eW.1 hall
       have j8 : Z9 t = s2 := by unfold Z9; rw [j7]; rfl
       have j3 : Zl (Z9 t) = true := by rw [j8]; exact Z0h hs j7
       have ja := Z3o hN
       have jb : Wf t r = Zek s (t.chg.drop v) r.vals := by unfold Wf; rw [j2, j0]; rfl
       have j9 := Z4x (s := s) (cs := t.chg.drop v) hv (fun c hc => ht.chg c (eS hc))
       have e6 := Z5v (show 5 <= D by omega) (Z9 t) (Wf t r) (Yq j3).1 (by rw [jb]; exact j9) (by rw [ja]; have := (Yq j3).2; omega)
       rw [j3, eZ] at e6
       cases p4 : Z5e (Z9 t) (Wf t r) with
       | false =>
         rw [p4] at e6
         simp only [hU, cond_false]
         rcases hI with ⟨rfl, rfl⟩ | ⟨j, p, rfl, hp, rfl⟩
         . exact Yc7 F h1 h2 h3 h4 s e1 e4 _ e5 e6 K
         . exact Yda F (Zq (f := RowV.c) hp) (by rw [show ((j + 1 : Nat) : Int) - 1 = j by omega]; exact wrap_i64 (by omega) (by unfold big at j1; omega)) h1 h2 h3 h4 (eq_false (by omega)) s e1 e4 _ e5 e6 K
       | true =>
         rw [p4] at e6
         simp only [gY, cond_true]
         refine ⟨?_, by omega, .inr ⟨i, r, rfl, hc, rfl⟩⟩
         rcases hI with ⟨rfl, rfl⟩ | ⟨j, p, rfl, hp, rfl⟩
         . exact Ycs F h1 h2 h3 h4 s e1 e4 _ e5 e6 K
         . exact Yb8 F (Zq (f := RowV.c) hp) (by rw [show ((j + 1 : Nat) : Int) - 1 = j by omega]; exact wrap_i64 (by omega) (by unfold big at j1; omega)) h1 h2 h3 h4 (eq_false (by omega)) s e1 e4 _ e5 e6 K
 . have hi : ¬ t.rows.length < t.rows.length := by omega
   simp only [stS, Zd, Z0n, Z05, go_sem, dN, hi]
   exact ⟨_, rfl, _, rfl⟩
theorem Zrr {D : Nat} (hD : 10 <= D) (t : Tab) (ht : SmallT t) (hs : Zl t.first = true) (hall : (chgs t.first t.chg).isSome = true) : den pr D Zzf [.agg t.c] = some [.q (Zde t)] := by
 obtain ⟨D, rfl, hd⟩ := Zc hD
 rw [Ydf]
 have e1 := Z2l hd t ht hs
 obtain ⟨out, lo, lp⟩ := Zoj hd t ht hs hall
 simp only [stS, Zc5] at lo
 rw [show ((0 : Nat) : Int) = 0 from rfl] at lo
 unfold Zde
 cases hq : Zv (Zc8 t) 0 0 t.rows with
 | inl m =>
   rw [hq] at lp
   obtain ⟨U', rfl⟩ := lp
   simp only [Y06, go_sem, e1, dN, Za, lo]
 | inr u =>
   rw [hq] at lp
   obtain ⟨U', rfl, l2⟩ := lp
   simp only [Y06, go_sem, e1, dN, Za, lo, l2]
end Go.Vm.T
namespace Go.Vm.T
open Go.Proofs
variable [Pr2]
def Y4z (v : Val) (_ : Nat) (_ : Unit) (y : Val) : Unit ⊕ Unit := bif !decide (v.k = 0) && decide (v = y) then .inr () else .inl ()
theorem Zuf (v : Val) : ∀ (l : List Val) (i : Nat), Zv (Y4z v) i () l = bif !decide (v.k = 0) && decide (v ∈ l) then .inr () else .inl ()
 | [], i => by simp [Zv]
 | y :: l, i => by
   unfold Zv
   rw [show Y4z v i () y = bif !decide (v.k = 0) && decide (v = y) then .inr () else .inl () from rfl]
   have ih := Zuf v l (i + 1)
   by_cases h0 : v.k = 0
   . simp only [h0, decide_true, Bool.not_true, gF, cond_false] at ih ⊢
     exact ih
   . by_cases h : v = y
     . simp only [h, decide_true, eK, true_or]
       rw [show decide (y.k = 0) = false from by rw [<- h]; simp [h0]]
       rfl
     . simp only [h0, h, decide_false, fR, eZ, cond_false, eK, false_or] at ih ⊢
       exact ih
def Zzk (vs : List Val) (i : Nat) (_ : Unit) (v : Val) : Unit ⊕ Unit := Zv (Y4z v) 0 () (vs.take i)
def Y3c (es : List (List Val)) (k : Nat) (_ : Unit) (c : ColV) : Unit ⊕ Unit := if c.once = true then Zv (Zzk (es.map fun r => r.getD k zV)) 0 () (es.map fun r => r.getD k zV) else .inl ()
def twB (s : List ColV) (es : List (List Val)) : Bool := match Zv (Y3c es) 0 () s with
 | .inl _ => false
 | .inr _ => true
theorem Zu7 (c : ColV) (hc : c.once = true) (vs : List Val) : ∀ (l pre keys : List Val), vs = pre ++ l -> (∀ x, x ∈ keys ↔ x ∈ pre) ->
 ((∃ ks, Zv (Zni c) pre.length keys l = .inl ks) /\ Zv (Zzk vs) pre.length () l = .inl ()) \/ (Zv (Zni c) pre.length keys l = .inr () /\ Zv (Zzk vs) pre.length () l = .inr ())
 | [], pre, keys, _, _ => .inl ⟨⟨keys, rfl⟩, rfl⟩
 | v :: l, pre, keys, hv, hk => by
   have hp : vs.take pre.length = pre := by rw [hv]; simp
   unfold Zv
   have e1 : Zzk vs pre.length () v = bif !decide (v.k = 0) && decide (v ∈ pre) then .inr () else .inl () := by
    unfold Zzk
    rw [hp, Zuf]
   have e2 : Zni c pre.length keys v = if v.k ≠ 0 /\ v ∈ pre then .inr () else .inl (Zos keys v) := by
    unfold Zni
    simp only [hc, true_and, hk v]
   rw [e1, e2]
   by_cases h : v.k ≠ 0 /\ v ∈ pre
   . right
     rw [if_pos h]
     simp [h.1, h.2]
   . rw [if_neg h]
     have hb : (!decide (v.k = 0) && decide (v ∈ pre)) = false := by
      cases q : (!decide (v.k = 0) && decide (v ∈ pre)) with
      | false => rfl
      | true => simp at q; exact absurd q h
     rw [hb, cond_false]
     simp only
     have ih := Zu7 c hc vs l (pre ++ [v]) (Zos keys v) (by rw [hv]; simp) (fun x => by
      unfold Zos
      split
      . rename_i j0
        rw [hk x]
        constructor
        . intro h; simp [h]
        . intro h
          rcases dW.1 h with h | h
          . exact h
          . rw [dX.1 h]; exact (hk v).1 j0
      . simp only [dW, hk x])
     rw [eE] at ih
     exact ih
theorem Zki (c : ColV) (hc : c.once = false) : ∀ (l keys : List Val) (i : Nat), ∃ ks, Zv (Zni c) i keys l = .inl ks
 | [], keys, i => ⟨keys, rfl⟩
 | v :: l, keys, i => by
   unfold Zv
   have e2 : Zni c i keys v = .inl (Zos keys v) := by unfold Zni; simp [hc]
   rw [e2]
   exact Zki c hc l _ _
theorem Zy9 (t : Tab) : ∀ (s : List ColV) (k : Nat), Zv (Y3c (t.rows.map (Wf t))) k () s = Zv (Zt7 t) k () s
 | [], k => rfl
 | c :: s, k => by
   have ih := Zy9 t s (k + 1)
   have e : (t.rows.map (Wf t)).map (fun r => r.getD k zV) = Vj t k := by unfold Vj; simp
   have h : Y3c (t.rows.map (Wf t)) k () c = Zt7 t k () c := by
    unfold Y3c Zt7 Zzn
    rw [e]
    cases hc : c.once with
    | true =>
      rw [if_pos rfl]
      rcases Zu7 c hc (Vj t k) (Vj t k) [] [] rfl (fun x => Iff.rfl) with ⟨⟨ks, h1⟩, h2⟩ | ⟨h1, h2⟩
      . simp only [eG] at h1 h2
        rw [h1, h2]; rfl
      . simp only [eG] at h1 h2
        rw [h1, h2]; rfl
    | false =>
      obtain ⟨ks, h1⟩ := Zki c hc (Vj t k) [] 0
      rw [h1]
      rfl
   unfold Zv
   rw [h]
   cases Zt7 t k () c with
   | inl _ => exact ih
   | inr _ => rfl
theorem Y5j (t : Tab) : twB (Z9 t) (t.rows.map (Wf t)) = !Zp0 t := by
 unfold twB Zp0
 rw [Zy9]
 cases Zv (Zt7 t) 0 () (Z9 t) <;> rfl
abbrev Y5w (s : List ColV) (es : List (List Val)) (c : Nat) : St := ⟨upd (upd (upd (fun _ => .bad) 0 (.lit Z0 (s.map ColV.c))) 1 (.lit Zm (es.map Z2d))) 5 (.n c), fun _ => none, 0, 0⟩
abbrev Zye (s : List ColV) (es : List (List Val)) (c i : Nat) : St := ⟨upd (upd (upd (upd (fun _ => .bad) 0 (.lit Z0 (s.map ColV.c))) 1 (.lit Zm (es.map Z2d))) 5 (.n c)) 6 (.n i), fun _ => none, 0, 0⟩
abbrev Zyb (s : List ColV) (es : List (List Val)) (c i k : Nat) : St := ⟨upd (upd (upd (upd (upd (fun _ => .bad) 0 (.lit Z0 (s.map ColV.c))) 1 (.lit Zm (es.map Z2d))) 5 (.n c)) 6 (.n i)) 7 (.n k), fun _ => none, 0, 0⟩
structure TwOk (s : List ColV) (es : List (List Val)) : Prop where
 cl : s.length <= big
 el : es.length <= big
 len : ∀ r ∈ es, r.length = s.length
theorem Zc1 {r : List Val} {c : Nat} (h : c < r.length) : r[c]? = some (r.getD c zV) := by
 rw [fV, dS h]; rfl
theorem Y7q (E : Env) (s : List ColV) (es : List (List Val)) (H : TwOk s es) (c i : Nat) (ri : List Val) (hi : es[i]? = some ri) (hc : c < s.length) :
 Vg (Zd (Zj E Wm) [0, 1, 5, 6, 7] rounds (Zyb s es c i 0)) Unit Unit (Zv (Y4z (ri.getD c zV)) 0 () ((es.map fun r => r.getD c zV).take i))
  (fun _ o => ∃ U', o = .exit 4 U' /\ U'.n = 0 /\ U'.base = 0 /\ U'.s 0 = .lit Z0 (s.map ColV.c) /\ U'.s 1 = .lit Zm (es.map Z2d) /\ U'.s 5 = .n c /\ U'.s 6 = .n i) (fun _ o => ∃ U', o = .ret U' /\ U'.s 4 = .q true) := by
 have j8 : i < es.length := (dU.1 hi).1
 have j2 : ((es.map fun r => r.getD c zV).take i).length = i := by simp; omega
 have j3 := H.el
 have j7 := H.len ri (dY hi)
 refine Zt ((es.map fun r => r.getD c zV).take i) (fun k _ => Zyb s es c i k) (Y4z (ri.getD c zV)) (fun _ _ => True) _ _ () trivial (by omega) (fun k _ y K hy hlt _ => ?_) (fun _ K _ => ?_)
 . rw [j2] at hlt
   rw [dB, if_pos hlt, eN] at hy
   obtain ⟨rk, hk, rfl⟩ := fW.1 hy
   have j5 := H.len rk (dY hk)
   have hx := Zq (f := Z2d) hi
   have j1 := Zq (f := Z2d) hk
   have hv := Zq (f := Val.c) (Zc1 (r := ri) (c := c) (by omega))
   have j0 := Zq (f := Val.c) (Zc1 (r := rk) (c := c) (by omega))
   have j9 : c < ri.length := by omega
   have j6 : c < rk.length := by omega
   have j4 : k < es.length := by omega
   have hw := Zk (n := k) (by unfold big at j3; omega)
   unfold Y4z
   generalize ri.getD c zV = v at *
   generalize rk.getD c zV = w at *
   have ht : (!decide (v.k = 0) && decide (v = w)) = (!decide (v.k = 0) && decide (v = w)) := rfl
   rcases pf (v.k = 0) with p | p
   . simp only [Zyb, Zd, Z18, Wr, go_sem, hx, j1, hv, j0, hlt, hw, p, Zd0]
   . simp only [p, decide_false, fR, eZ]
     have q0 : ∀ b : Bool, decide (v = w) = b -> ∀ K, (bif b then ∃ out, Zd (Zj E Wm) [0, 1, 5, 6, 7] (K + 1) (Zyb s es c i k) = some out /\ ∃ U', out = .ret U' /\ U'.s 4 = .q true else Zd (Zj E Wm) [0, 1, 5, 6, 7] (K + 1) (Zyb s es c i k) = Zd (Zj E Wm) [0, 1, 5, 6, 7] K (Zyb s es c i (k + 1))) := by
      intro b hb K
      cases b with
      | true => simp only [Zyb, Zd, Z18, Wr, go_sem, hx, j1, hv, j0, hlt, p, Zd0, hb]; exact ⟨_, rfl, _, rfl, rfl⟩
      | false => simp only [Zyb, Zd, Z18, Wr, go_sem, hx, j1, hv, j0, hlt, hw, p, Zd0, hb]
     have q := q0 _ rfl K
     cases hb : decide (v = w) with
     | true => rw [hb] at q; simp only [cond_true] at q ⊢; exact q
     | false => rw [hb] at q; simp only [cond_false] at q ⊢; exact ⟨q, trivial⟩
 . rw [j2]
   have hi : ¬ i < i := by omega
   simp only [Zyb, Zd, Z18, Wr, go_sem, hi]
   exact ⟨_, rfl, _, rfl, rfl, rfl, rfl, rfl, rfl, rfl⟩
theorem Y8e (E : Env) (s : List ColV) (es : List (List Val)) (H : TwOk s es) (c : Nat) (col : ColV) (hc : s[c]? = some col) (ho : col.once = true) :
 Vg (Zd (Zj E Z17) [0, 1, 5, 6] rounds (Zye s es c 0)) Unit Unit (Zv (Zzk (es.map fun r => r.getD c zV)) 0 () (es.map fun r => r.getD c zV))
  (fun _ o => ∃ U', o = .exit 2 U' /\ U'.n = 0 /\ U'.base = 0 /\ U'.s 0 = .lit Z0 (s.map ColV.c) /\ U'.s 1 = .lit Zm (es.map Z2d) /\ U'.s 5 = .n c) (fun _ o => ∃ U', o = .ret U' /\ U'.s 4 = .q true) := by
 have j1 : c < s.length := (dU.1 hc).1
 have j2 := H.el
 have j0 := Zq (f := ColV.c) hc
 refine Zt (es.map fun r => r.getD c zV) (fun i _ => Zye s es c i) (Zzk (es.map fun r => r.getD c zV)) (fun _ _ => True) _ _ () trivial (by rw [dN]; omega) (fun i _ v K hv hlt _ => ?_) (fun _ K _ => ?_)
 . rw [dN] at hlt
   rw [eN] at hv
   obtain ⟨ri, hi, rfl⟩ := fW.1 hv
   have hw := Zk (n := i) (by unfold big at j2; omega)
   obtain ⟨out, lo, lp⟩ := Y7q E s es H c i ri hi j1
   simp only [Zyb] at lo
   rw [show ((0 : Nat) : Int) = 0 from rfl] at lo
   unfold Zzk
   cases hq : Zv (Y4z (ri.getD c zV)) 0 () ((es.map fun r => r.getD c zV).take i) with
   | inl u =>
     rw [hq] at lp
     obtain ⟨U', rfl, m1, m2, l1, l2, l3, l4⟩ := lp
     simp only [Zye, Zd, Vu, Xx, go_sem, dN, j0, hlt, hw, ho, lo, m1, m2, l1, l2, l3, l4]
   | inr u =>
     rw [hq] at lp
     obtain ⟨U', rfl, l1⟩ := lp
     simp only [Zye, Zd, Vu, Xx, go_sem, dN, j0, hlt, ho, lo]
     exact ⟨_, rfl, _, rfl, l1⟩
 . rw [dN]
   have hi : ¬ es.length < es.length := by omega
   simp only [Zye, Zd, Vu, Xx, go_sem, dN, hi, j0]
   exact ⟨_, rfl, _, rfl, rfl, rfl, rfl, rfl, rfl⟩
theorem Y7j (E : Env) (s : List ColV) (es : List (List Val)) (H : TwOk s es) :
 Vg (Zd (Zj E Z3v) [0, 1, 5] rounds (Y5w s es 0)) Unit Unit (Zv (Y3c es) 0 () s) (fun _ o => ∃ U', o = .exit 0 U') (fun _ o => ∃ U', o = .ret U' /\ U'.s 4 = .q true) := by
 have j2 := H.el
 have j0 := H.cl
 refine Zt s (fun c _ => Y5w s es c) (Y3c es) (fun _ _ => True) _ _ () trivial j0 (fun c _ col K hc hlt _ => ?_) (fun _ K _ => ?_)
 . have j1 := Zq (f := ColV.c) hc
   have hw := Zk (n := c) (by unfold big at j0; omega)
   unfold Y3c
   cases ho : col.once with
   | false =>
     have lo : ∃ U', Zd (Zj E Z17) [0, 1, 5, 6] rounds (Zye s es c 0) = some (.exit 2 U') /\ U'.n = 0 /\ U'.base = 0 /\ U'.s 0 = .lit Z0 (s.map ColV.c) /\ U'.s 1 = .lit Zm (es.map Z2d) /\ U'.s 5 = .n c := by
      obtain ⟨K, hK⟩ : ∃ K, rounds = K + 1 := ⟨rounds - 1, by have := Zkl j0; omega⟩
      rw [hK]
      rcases pf (0 < es.length) with hz | hz
      . simp only [Zye, Zd, Vu, Xx, go_sem, dN, j1, ho, hz]
        exact ⟨_, rfl, rfl, rfl, rfl, rfl, rfl⟩
      . simp only [Zye, Zd, Vu, Xx, go_sem, dN, j1, ho, hz]
        exact ⟨_, rfl, rfl, rfl, rfl, rfl, rfl⟩
     obtain ⟨U', lo, m1, m2, l1, l2, l3⟩ := lo
     simp only [Zye] at lo
     rw [show ((0 : Nat) : Int) = 0 from rfl] at lo
     rw [if_neg (by simp)]
     simp only [Y5w, Zd, Z14, Wp, go_sem, dN, hlt, hw, lo, m1, m2, l1, l2, l3]
   | true =>
     rw [if_pos rfl]
     obtain ⟨out, lo, lp⟩ := Y8e E s es H c col hc ho
     simp only [Zye] at lo
     rw [show ((0 : Nat) : Int) = 0 from rfl] at lo
     cases hq : Zv (Zzk (es.map fun r => r.getD c zV)) 0 () (es.map fun r => r.getD c zV) with
     | inl u =>
       rw [hq] at lp
       obtain ⟨U', rfl, m1, m2, l1, l2, l3⟩ := lp
       simp only [Y5w, Zd, Z14, Wp, go_sem, dN, hlt, hw, lo, m1, m2, l1, l2, l3]
     | inr u =>
       rw [hq] at lp
       obtain ⟨U', rfl, l1⟩ := lp
       simp only [Y5w, Zd, Z14, Wp, go_sem, dN, hlt, lo]
       exact ⟨_, rfl, _, rfl, l1⟩
 . have hi : ¬ s.length < s.length := by omega
   simp only [Y5w, Zd, Z14, Wp, go_sem, dN, hi]
   exact ⟨_, rfl, _, rfl⟩
theorem Zlh {D : Nat} (hD : 1 <= D) (s : List ColV) (es : List (List Val)) (H : TwOk s es) : den pr D Z0y [.lit Z0 (s.map ColV.c), .lit Zm (es.map Z2d)] = some [.q (twB s es)] := by
 obtain ⟨D, rfl, hd⟩ := Zc hD
 rw [Zfn]
 obtain ⟨out, lo, lp⟩ := Y7j (aH D) s es H
 simp only [Y5w] at lo
 rw [show ((0 : Nat) : Int) = 0 from rfl] at lo
 unfold twB
 cases hq : Zv (Y3c es) 0 () s with
 | inl u =>
   rw [hq] at lp
   obtain ⟨U', rfl⟩ := lp
   simp only [Z2r, go_sem, lo]
 | inr u =>
   rw [hq] at lp
   obtain ⟨U', rfl, l2⟩ := lp
   simp only [Z2r, go_sem, lo, l2]
def g40 : List G := [.g 37 false (.un 40 .not (.t 39)), .o (.pick 41 (.t 37) (.k (.v (.bool true))) (.t 40))]
noncomputable def Yb9 (E : Env) (U : St) (o : Option A) : Nat -> A := match bnd (Xv false U (some 39) o none) (Ze E 0 g40) with | some O => O.s | none => U.s
theorem Y92 (E : Env) (U : St) (o : Option A) (k : Option St) (h : U.s 37 = .q true) : bnd (Xv false U (some 39) o k) (Ze E 0 [.g 37 false (.un 40 .not (.t 39)), .o (.pick 41 (.t 37) (.k (.v (.bool true))) (.t 40))]) = some ⟨upd (Yb9 E U o) 41 (.q true), U.h, U.n, U.base⟩ := by
 have key : ∃ f, bnd (Xv false U (some 39) o none) (Ze E 0 g40) = some ⟨upd f 41 (.q true), U.h, U.n, U.base⟩ := by
  rw [Wj]
  obtain ⟨s, hp, n, b⟩ := U
  simp only at h
  simp only [g40, go_sem, h, Zba]
  rw [bq]
  exact ⟨_, rfl⟩
 obtain ⟨f, hf⟩ := key
 have : Yb9 E U o = upd f 41 (.q true) := by unfold Yb9; rw [hf]
 rw [this, Wj, <- Wj _ _ _ none]
 rw [show upd (upd f 41 (.q true)) 41 (.q true) = upd f 41 (.q true) from by funext i; simp only [Z7]; split <;> rfl]
 exact hf
theorem Za1 {D : Nat} (hD : 11 <= D) (t : Tab) (ht : SmallT t) : den pr D Z0u [.agg t.c] = some [.q (V3 t)] := by
 obtain ⟨D, rfl, hd⟩ := Zc hD
 rw [Zg9]
 have e1 := Z58 (show 7 <= D by omega) t.first t.chg ht.cols ht.chg ht.glen
 have i1 : ((8 : Int) < (t.chg.length : Int)) = ¬ (t.chg.length <= 8) := by rw [eq_iff_iff]; omega
 have i2 : ((8 : Int) < (t.rows.length : Int)) = ¬ (t.rows.length <= 8) := by rw [eq_iff_iff]; omega
 unfold V3
 cases p1 : (Z6k t.first t.chg).isSome with
 | false =>
   rw [p1] at e1
   rw [gF]
   simp only [Xn, go_sem, e1, dN, Za, i1, i2, Y92]
 | true =>
   rw [p1] at e1
   have hs : Zl t.first = true := by
    unfold Z6k at p1
    split at p1
    . rename_i hs; exact hs
    . cases p1
   have j0 : (chgs t.first t.chg).isSome = true := by unfold Z6k at p1; rw [if_pos hs] at p1; exact p1
   have e3 := Zrr (show 10 <= D by omega) t ht hs j0
   have e4 := Z2l (show 9 <= D by omega) t ht hs
   have iN : inB t.next 1 60 = (!decide (t.next < 1) && !decide (60 < t.next)) := by
    unfold inB
    rw [<- decide_not, <- decide_not]
    congr 1 <;> exact decide_eq_decide.2 (by omega)
   rw [eZ, iN]
   rcases pf (t.chg.length <= 8) with h1 | h1
   . rcases pf (t.rows.length <= 8) with h2 | h2
     . rcases pf (t.next < 1) with h3 | h3
       . simp only [Xn, go_sem, e1, e3, dN, Za, i1, i2, h1, h2, h3]
       . rcases pf (60 < t.next) with h4 | h4
         . simp only [Xn, go_sem, e1, e3, dN, Za, i1, i2, h1, h2, h3, h4]
         . cases hB : Zde t with
           | false =>
             rw [hB] at e3
             simp only [Xn, go_sem, e1, e3, dN, Za, i1, i2, h1, h2, h3, h4]
           | true =>
             rw [hB] at e3
             have hn : ∀ r ∈ t.rows, NowOk t r := by
              have j1 := hB
              unfold Zde at j1
              split at j1
              . rename_i m hm
                exact Zdg hm j0 (fun r h => (ht.vals r h).1)
              . cases j1
             have e5 := Y70 (show 10 <= D by omega) t ht hs hn
             obtain ⟨s2, j2⟩ := eW.1 j0
             have j3 : Z9 t = s2 := by unfold Z9; rw [j2]; rfl
             have j4 : Zl (Z9 t) = true := by rw [j3]; exact Z0h hs j2
             have e6 := Zlh (show 1 <= D by omega) (Z9 t) (t.rows.map (Wf t)) ⟨by have := (Yq j4).2; omega, by rw [dN]; exact ht.rlen, fun r hr => by
              obtain ⟨x, hx, rfl⟩ := List.mem_map.1 hr
              exact Z3o (hn x hx)⟩
             rw [Y5j] at e6
             have e7 : (!!Zp0 t) = Zp0 t := Bool.not_not _
             generalize hm : t.rows.map (Wf t) = m at *
             have j5 := Zb Z2d m
             have hts := Zb ColV.c (Z9 t)
             simp only [Xn, go_sem, e1, e3, e4, e5, e6, e7, dN, i1, i2, h1, h2, h3, h4, j5, hts, dO, if_true, ite_self, true_and]
     . simp only [Xn, go_sem, e1, e3, dN, Za, i1, i2, h1, h2]
   . simp only [Xn, go_sem, e1, e3, dN, Za, i1, i2, h1]
end Go.Vm.T
namespace Go.Vm.T
open Go.Proofs
def Y8y (t : Tab) (r : RowV) (_ : Nat) (acc : List (List Val)) (x : RowV) : List (List Val) ⊕ Unit := .inl (bif decide (x.id = r.id) then acc else acc ++ [Wf t x])
def Y2f (t : Tab) (r : RowV) : List RowV -> List (List Val) -> List (List Val)
 | [], acc => acc
 | x :: l, acc => Y2f t r l (bif decide (x.id = r.id) then acc else acc ++ [Wf t x])
theorem Zv9 (t : Tab) (r : RowV) : ∀ (l : List RowV) (i : Nat) (acc : List (List Val)), Zv (Y8y t r) i acc l = .inl (Y2f t r l acc)
 | [], i, acc => rfl
 | x :: l, i, acc => by
   unfold Zv
   show Zv (Y8y t r) (i + 1) (bif decide (x.id = r.id) then acc else acc ++ [Wf t x]) l = _
   rw [Zv9 t r l (i + 1)]
   rfl
def Ztf (t : Tab) (r : RowV) : List (List Val) := Y2f t r t.rows [r.vals]
theorem Zpu {t : Tab} {r : RowV} {P : List Val -> Prop} : ∀ (l : List RowV) (acc : List (List Val)), (∀ x ∈ l, P (Wf t x)) -> (∀ y ∈ acc, P y) -> ∀ y ∈ Y2f t r l acc, P y
 | [], acc, _, ha => ha
 | x :: l, acc, hl, ha => Zpu l _ (fun y hy => hl y (by simp [hy])) (fun y hy => by
   cases hq : decide (x.id = r.id) with
   | true => rw [hq] at hy; exact ha y hy
   | false =>
     rw [hq] at hy
     rcases dW.1 hy with hy | hy
     . exact ha y hy
     . rw [dX.1 hy]; exact hl x (by simp))
theorem Zrb {t : Tab} {r : RowV} : ∀ (l : List RowV) (acc : List (List Val)), (Y2f t r l acc).length <= acc.length + l.length /\ acc.length <= (Y2f t r l acc).length
 | [], acc => ⟨dO _, dO _⟩
 | x :: l, acc => by
   have := Zrb (t := t) (r := r) l (bif decide (x.id = r.id) then acc else acc ++ [Wf t x])
   unfold Y2f
   cases hq : decide (x.id = r.id) with
   | true => rw [hq] at this; simp only [cond_true, eF] at this ⊢; omega
   | false => rw [hq] at this; simp only [cond_false, eF, eE, eG] at this ⊢; omega
abbrev acS (t : Tab) (s : List ColV) (r : RowV) (i : Nat) (acc : List (List Val)) : St := ⟨upd (upd (upd (upd (upd (fun _ => .bad) 2 (.ptr 0 0 0)) 3 (.ptr 1 0 0)) 5 (cV Z0 2 s.length false)) 6 (.ref Zm 3 0 acc.length acc.length (decide (acc.length = 1)))) 7 (.n i), upd (upd (upd (upd (fun _ => none) 0 (cT Z1 [t.c])) 1 (cT Z4 [r.c])) 2 (cU Z0 (s.map ColV.c))) 3 (cU Zm (acc.map Z2d)), 4, 0⟩
variable [Pr2]
set_option maxHeartbeats 4000000 in
theorem Ztq {D : Nat} (hD : 9 <= D) (t : Tab) (ht : SmallT t) (hs : Zl t.first = true) (hn : ∀ x ∈ t.rows, NowOk t x) (hl8 : t.rows.length <= 100) (s : List ColV) (r : RowV) :
 Vg (Zd (Zj (aH D) Z50) [2, 3, 5, 6, 7] rounds (acS t s r 0 [r.vals])) (List (List Val)) Unit (Zv (Y8y t r) 0 [r.vals] t.rows)
  (fun m o => ∃ U' exc ex, o = .exit 0 U' /\ U'.s 3 = .ptr 1 0 0 /\ U'.s 5 = cV Z0 2 s.length exc /\ U'.s 6 = cV Zm 3 m.length ex /\ U'.h 1 = cT Z4 [r.c] /\ U'.h 2 = cU Z0 (s.map ColV.c) /\ U'.h 3 = cU Zm (m.map Z2d)) (fun _ o => False) := by
 refine Zt t.rows (acS t s r) (Y8y t r) (fun i acc => acc.length <= i + 1 /\ 1 <= acc.length) _ _ [r.vals] ⟨by simp, by simp⟩ ht.rlen (fun i acc x K hc hlt hI => ?_) (fun acc K hI => ?_)
 . have j1 := Zq (f := RowV.c) hc
   have hw := Zk (n := i) (by omega)
   have e1 := Zce hD t ht hs x (hn x (dY hc))
   have j2 : acc.length + 1 <= big := by unfold big; omega
   have j3 := Zb Z2d acc
   have hz : decide (acc.length = 0) = false := decide_eq_false (by omega)
   unfold Y8y
   generalize Wf t x = row at *
   have j0 := Zb Val.c row
   have em : (acc ++ [row]).map Z2d = acc.map Z2d ++ [Z2d row] := by simp
   have j4 : (acc ++ [row]).length = acc.length + 1 := by simp
   obtain ⟨xi, xv, xs⟩ := x
   obtain ⟨ri, rv, rs⟩ := r
   rcases pf (xi = ri) with h0 | h0
   . simp only [acS, Zd, Z59, Z09, go_sem, dN, j1, hlt, hw, e1, j0, h0, Zp]
     omega
   . simp only [acS, Zd, Z59, Z09, go_sem, dN, j1, hlt, hw, e1, j2, j3, j0, em, j4, hz, h0, Zp, and_self, if_true, dI, dO]
     omega
 . have hi : ¬ t.rows.length < t.rows.length := by omega
   simp only [acS, Zd, Z59, Z09, go_sem, dN, hi]
   exact ⟨_, rfl, _, _, _, rfl, rfl, rfl, rfl, rfl, rfl, rfl⟩
def Y7f (t : Tab) (r : RowV) : Int := if (Zl (Z9 t) && Z5e (Z9 t) r.vals) = true then if twB (Z9 t) (Ztf t r) = true then 3 else 0 else 2
set_option maxHeartbeats 4000000 in
theorem Zpx {D : Nat} (hD : 10 <= D) (t : Tab) (ht : SmallT t) (hs : Zl t.first = true) (hall : (chgs t.first t.chg).isSome = true) (hn : ∀ x ∈ t.rows, NowOk t x) (hl8 : t.rows.length <= 100) (r : RowV) (hr : r.vals.length = (Z9 t).length) (hv : V9 r.vals) :
 den pr D Z1t [.agg t.c, .agg r.c] = some [.n (Y7f t r)] := by
 obtain ⟨D, rfl, hd⟩ := Zc hD
 rw [Zi3]
 have e1 := Z2l (show 9 <= D by omega) t ht hs
 have j2 : SmallC (Z9 t) /\ (Z9 t).length + 1 <= big := by
  unfold Z9
  cases hq : chgs t.first t.chg with
  | none => rw [hq] at hall; cases hall
  | some s' => exact Z2c ⟨ht.cols, ht.clen⟩ hq
 have j5 := j2.2
 have e2 := Z5v (show 5 <= D by omega) (Z9 t) r.vals j2.1 hv (by omega)
 have j3 := Zrb (t := t) (r := r) t.rows [r.vals]
 have e3 := Zlh (show 1 <= D by omega) (Z9 t) (Ztf t r) ⟨by omega, by have := j3.1; unfold Ztf; simp at this; unfold big; omega, Zpu (P := fun y => y.length = (Z9 t).length) t.rows [r.vals] (fun x hx => Z3o (hn x hx)) (fun y hy => by rw [dX.1 hy]; exact hr)⟩
 obtain ⟨out, lo, lp⟩ := Ztq hd t ht hs hn hl8 (Z9 t) r
 rw [Zv9] at lp
 obtain ⟨U', j6, ex, rfl, l1, l2, l3, l4, l5, l6⟩ := lp
 simp only [acS, eG, eF, dJ, fO, decide_true] at lo
 rw [show ((0 : Nat) : Int) = 0 from rfl] at lo
 unfold Y7f
 rw [show Y2f t r t.rows [r.vals] = Ztf t r from rfl] at l3 l6
 generalize Ztf t r = es at *
 generalize Z9 t = s at *
 have j0 := Zb ColV.c s
 have j1 := Zb Z2d es
 have j4 := Zb Val.c r.vals
 cases hq : (Zl s && Z5e s r.vals) with
 | false =>
   rw [hq] at e2
   simp only [Z23, go_sem, e1, e2, lo, l1, l2, l3, l4, l5, l6, j0, j1, Za, dN, dO]
 | true =>
   rw [hq] at e2
   cases hw : twB s es with
   | false =>
     rw [hw] at e3
     simp only [Z23, go_sem, e1, e2, e3, lo, l1, l2, l3, l4, l5, l6, j0, j1, Za, dN, dO]
     | true =>
     rw [hw] at e3
     simp only [Z23, go_sem, e1, e2, e3, lo, l1, l2, l3, l4, l5, l6, j0, j1, Za, dN, dO]
 end Go.Vm.T
namespace Go.Vm.T
open Go.Proofs
variable [Pr2]
end Go.Vm.T
namespace Go.Vm
theorem Zc4 (base : Nat) (h : Hp) (ns : List Nat) : ∀ (bs : List Nat) (h' : Hp) (k : Nat), (∀ i, k <= i -> h' i = none) -> Z6y base h h' ns bs k = fun i => if i < k then h' i else match bs[i - k]? with | some b => (h b).map (Z41 base ns) | none => none
 | [], h', k, hn => by
   funext i
   unfold Z6y
   by_cases hi : i < k
   . rw [if_pos hi]
   . rw [if_neg hi, hn i (by omega)]; simp
 | b :: bs, h', k, hn => by
   unfold Z6y
   cases hb : h b with
   | none =>
     simp only
     rw [Zc4 base h ns bs h' (k + 1) fun i hi => hn i (by omega)]
     funext i
     rcases Nat.lt_trichotomy i k with hi | hi | hi
     . simp [hi, show i < k + 1 by omega]
     . subst hi
       simp [hb, hn i (dO i)]
     . rw [if_neg (by omega), if_neg (by omega), show i - k = (i - (k + 1)) + 1 by omega, fF]
   | some blk =>
     simp only
     rw [Zc4 base h ns bs _ (k + 1) fun i hi => by rw [Z7, if_neg (by omega)]; exact hn i (by omega)]
     funext i
     rcases Nat.lt_trichotomy i k with hi | hi | hi
     . rw [if_pos (by omega), if_pos hi, Z7, if_neg (by omega)]
     . subst hi
       simp [hb, Z7]
     . rw [if_neg (by omega), if_neg (by omega), show i - k = (i - (k + 1)) + 1 by omega, fF]
def Z8u (base : Nat) (h : Hp) (ns : List Nat) : Hp := fun i => if i < base then h i else match ns[i - base]? with
 | some b => (h b).map (Z41 base ns)
 | none => none
theorem Y0w {L : List Nat} {U : St} {ns : List Nat} (hr : Z26 U.base U.h 2 (Xt U.base U.s [] L) = ns) (hc : Zf8 U.base U.h ns = true) :
 canon L U = some ⟨Xr U.base ns U.s (fun _ => .bad) L, Z8u U.base U.h ns, U.base + ns.length, U.base⟩ := by
 unfold canon Zec
 rw [hr, hc, cond_true]
 congr 2
 rw [Zc4 U.base U.h ns ns (low U.base U.h) U.base fun i hi => by unfold low; rw [if_neg (by omega)]]
 funext i
 unfold Z8u low
 by_cases hi : i < U.base
 . simp [hi]
 . simp [hi]
end Go.Vm
end
